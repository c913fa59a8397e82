/- The disk: a file is made; a file is turned. -/
import Derived.Test.YtceplmmmlindnaaEG16
import Derived.Test.YtceplmmmlindnaaEG17
namespace Go.Proofs.Ytceplmmmlindnaa
open Go.Ab
set_option linter.unusedVariables false
set_option linter.unusedSimpArgs false

/-- A file in another's place. -/
def upF (fs : List FA) (f' : FA) : List FA := fs.map fun g => if g.b = f'.b then f' else g
theorem upF_mem {fs : List FA} {f' g : FA} (h : g ∈ upF fs f') : g = f' ∨ (g ∈ fs ∧ g.b ≠ f'.b) := by
  obtain ⟨g0, h1, h2⟩ := List.mem_map.1 h
  split at h2
  · exact .inl h2.symm
  · subst h2; exact .inr ⟨h1, by assumption⟩
theorem upF_b {fs : List FA} {f' : FA} : (upF fs f').map (·.b) = fs.map (·.b) := by
  rw [upF, List.map_map]
  apply List.map_congr_left
  intro g _
  simp only [Function.comp]
  split
  · rename_i h; exact h.symm
  · rfl
theorem uniq_b {fs : List FA} (hn : (fs.map (·.b)).Nodup) {f g : FA} (hf : f ∈ fs) (hg : g ∈ fs) (h : f.b = g.b) : f = g := by
  induction fs with
  | nil => cases hf
  | cons x fs ih =>
    simp only [List.map_cons, List.nodup_cons, List.mem_map, not_exists, not_and] at hn
    rcases List.mem_cons.1 hf with rfl | hf' <;> rcases List.mem_cons.1 hg with rfl | hg'
    · rfl
    · exact absurd h.symm (hn.1 g hg')
    · exact absurd h (hn.1 f hf')
    · exact ih hn.2 hf' hg'
theorem uniq_n {fs : List FA} (hn : (fs.map (·.name)).Nodup) {f g : FA} (hf : f ∈ fs) (hg : g ∈ fs) (h : f.name = g.name) : f = g := by
  induction fs with
  | nil => cases hf
  | cons x fs ih =>
    simp only [List.map_cons, List.nodup_cons, List.mem_map, not_exists, not_and] at hn
    rcases List.mem_cons.1 hf with rfl | hf' <;> rcases List.mem_cons.1 hg with rfl | hg'
    · rfl
    · exact absurd h.symm (hn.1 g hg')
    · exact absurd h (hn.1 f hf')
    · exact ih hn.2 hf' hg'
/-- What is the same of a file, is the same of all. -/
theorem upF_same {β : Type} {fs : List FA} {f f' : FA} (e : FA → β) (hn : (fs.map (·.b)).Nodup) (hf : f ∈ fs) (hb : f'.b = f.b) (h : e f' = e f) : (upF fs f').map e = fs.map e := by
  rw [upF, List.map_map]
  apply List.map_congr_left
  intro g hg
  simp only [Function.comp]
  split
  · rename_i h2
    have := uniq_b hn hg hf (by rw [h2, hb])
    rw [this, h]
  · rfl
theorem upF_sum {fs : List FA} {f f' : FA} (e : FA → Nat) (hn : (fs.map (·.b)).Nodup) (hf : f ∈ fs) (hb : f'.b = f.b) : ((upF fs f').map e).sum + e f = (fs.map e).sum + e f' := by
  induction fs with
  | nil => cases hf
  | cons x fs ih =>
    have hn' := hn
    simp only [List.map_cons, List.nodup_cons, List.mem_map, not_exists, not_and] at hn
    rcases List.mem_cons.1 hf with rfl | hf
    · have : upF fs f' = fs := by
        unfold upF
        conv => rhs; rw [← List.map_id fs]
        apply List.map_congr_left
        intro g hg
        rw [if_neg (fun h => hn.1 g hg (by rw [h, hb]))]; rfl
      have h1 : upF (f :: fs) f' = f' :: upF fs f' := by simp [upF, hb]
      rw [h1, this]
      simp only [List.map_cons, List.sum_cons]; omega
    · have hx : ¬ x.b = f'.b := fun h => hn.1 f hf (by rw [h, hb])
      have h1 : upF (x :: fs) f' = x :: upF fs f' := by simp [upF, hx]
      rw [h1]
      simp only [List.map_cons, List.sum_cons]
      have := ih hn.2 hf; omega

section
variable {h h' : Heap} {ow ow' : Roles} {p m : Nat} {qp : Option SL} {es : Ents} {cl : Nat} {D : DS} {f f' : FA} {Q : AV → Heap → Prop}

/-- A file turned into another one of its name, in its place. -/
theorem DiskC.upFile (C : DiskC h ow p m qp es cl D) (hf : f ∈ D.files) (hb : f'.b = f.b) (hn : f'.name = f.name) (F' : FileR h' ow' f')
    (K : Keeps (fun b => b = f.b ∨ ow b = some (.now f.b) ∨ ow b = some (.safe f.b)) h h') (hl : h.length ≤ h'.length) (ho : ∀ b r, ow b = some r → ow' b = some r)
    (hol : ∀ b, ow' b ≠ none → b < h'.length) (hos : ∀ b, ow' b ≠ none → ow b ≠ none ∨ h.length ≤ b)
    (hpf : ∀ x ∈ D.pends, x.1 = f.b → x.2.1 < f'.now.length) (hs : f'.safe.length ≤ f'.now.length) (hu : ((upF D.files f').map (·.now.length)).sum ≤ 16384) :
    DiskC h' ow' p m qp es cl { D with files := upF D.files f' } ∧ DStep ow h ow' h' := by
  have hfr := (C.file f hf).role
  have ne : ∀ b r, ow b = some r → r ≠ .file → (∀ k, r ≠ .now k) → (∀ k, r ≠ .safe k) → ¬ (b = f.b ∨ ow b = some (.now f.b) ∨ ow b = some (.safe f.b)) := by
    intro b r hr h1 h2 h3 hc
    rcases hc with rfl | hc | hc
    · rw [hfr] at hr; exact h1 (Option.some.inj hr).symm
    · rw [hr] at hc; exact h2 _ (Option.some.inj hc)
    · rw [hr] at hc; exact h3 _ (Option.some.inj hc)
  refine ⟨⟨hol, ho _ _ C.pr, ho _ _ C.mr, ?_, ?_, ?_, C.born, C.clk, ?_, fun s hs => ho _ _ (C.pndr s hs), ?_, ?_, ?_, ?_, ?_, ?_, ?_, hu, C.lim, C.lft⟩, ⟨fun b B hb hB => ?_, hl, hos⟩⟩
  · exact K _ _ (ne _ _ C.pr (by simp) (by simp) (by simp)) C.pb
  · exact K _ _ (ne _ _ C.mr (by simp) (by simp) (by simp)) C.mb
  · rw [C.ents]; exact (upF_same entOf C.blocks hf hb (by simp [entOf, hb, hn])).symm
  · exact C.pnd.keeps K (fun s hs => ne _ _ (C.pndr s hs) (by simp) (by simp) (by simp))
  · intro g hg
    rcases upF_mem hg with rfl | ⟨hg, hne⟩
    · exact F'
    · have hgb : g.b ≠ f.b := by rw [← hb]; exact hne
      have hgr := (C.file g hg).role
      refine (C.file g hg).keeps K (fun b hc hx => ?_) ho
      rcases hc with ⟨h1, h2⟩ | h1 | h1
      · rcases hx with rfl | hx | hx
        · exact hgb h2.symm
        · rw [h1] at hx; cases hx
        · rw [h1] at hx; cases hx
      · rcases hx with rfl | hx | hx
        · rw [h1] at hfr; cases hfr
        · rw [h1] at hx; exact hgb (Role.now.inj (Option.some.inj hx))
        · rw [h1] at hx; cases hx
      · rcases hx with rfl | hx | hx
        · rw [h1] at hfr; cases hfr
        · rw [h1] at hx; cases hx
        · rw [h1] at hx; exact hgb (Role.safe.inj (Option.some.inj hx))
  · show ((upF D.files f').map (·.name)).Nodup
    rw [upF_same (·.name) C.blocks hf hb hn]; exact C.names
  · show ((upF D.files f').map (·.b)).Nodup
    rw [upF_b]; exact C.blocks
  · intro x hx
    obtain ⟨g, hg, h1, h2⟩ := C.pfile x hx
    by_cases he : g.b = f'.b
    · refine ⟨f', List.mem_map.2 ⟨g, hg, by rw [if_pos he]⟩, by rw [← he, h1], hpf x hx (by rw [← h1, he, hb])⟩
    · exact ⟨g, List.mem_map.2 ⟨g, hg, by rw [if_neg he]⟩, h1, h2⟩
  · intro g hg
    rcases upF_mem hg with rfl | ⟨hg, _⟩
    · exact hs
    · exact C.safe g hg
  · intro g hg
    rcases upF_mem hg with rfl | ⟨hg, _⟩
    · rw [hn]; exact C.nlen f hf
    · exact C.nlen g hg
  · show (upF D.files f').length ≤ 256
    rw [upF, List.length_map]; exact C.many
  · refine K _ _ (fun hx => hb ?_) hB
    show ow b ≠ none
    rcases hx with rfl | hx | hx
    · rw [hfr]; simp
    · rw [hx]; simp
    · rw [hx]; simp

theorem find_none {s : Bs} (h : D.find s = none) : s ∉ D.files.map (·.name) := by
  intro hm
  obtain ⟨g, hg, rfl⟩ := List.mem_map.1 hm
  have := List.find?_eq_none.1 h g hg
  simp at this

/-- A new file. -/
def mkF (b : Nat) (s : Bs) : FA := ⟨b, s, [], []⟩
abbrev newB (s : Bs) : Blk := .cells [.str s, .sl none, .sl none] true
abbrev newE (h : Heap) (s : Bs) (cl : Nat) : AV × AV × Nat := (.str s, .ptr (some ⟨h.length, 0⟩), cl)
theorem DiskC.addFile (C : DiskC h ow p m qp es cl D) {s : Bs} (hs : D.find s = none) (h24 : s.length ≤ 24) (hm : D.files.length < 256) :
    ∃ ow', DiskC ((h ++ [newB s]).set m (.mp (es ++ [newE h s cl]) (cl + 1))) ow' p m qp (es ++ [newE h s cl]) (cl + 1) { D with files := D.files ++ [mkF h.length s] } ∧
      DStep ow h ow' ((h ++ [newB s]).set m (.mp (es ++ [newE h s cl]) (cl + 1))) := by
  generalize hB : Blk.mp (es ++ [newE h s cl]) (cl + 1) = B
  have hml := C.live m (by simp [C.mr])
  have hpl := C.live p (by simp [C.pr])
  have K : Keeps (fun b => b = m) h ((h ++ [newB s]).set m B) := by
    intro b X hb hX
    rw [List.getElem?_set, if_neg (fun e => hb e.symm), List.getElem?_append_left (lt_of_get hX)]; exact hX
  have ho : ∀ b r, ow b = some r → (fun b => if b = h.length then some .file else ow b) b = some r := by
    intro b r hr
    have := C.live b (by simp [hr])
    simp only
    rw [if_neg (by omega)]; exact hr
  have ne : ∀ b r, ow b = some r → r ≠ .map → ¬ b = m := fun b r hr hn he => by subst he; rw [C.mr] at hr; exact hn (Option.some.inj hr).symm
  refine ⟨fun b => if b = h.length then some .file else ow b, ⟨fun b hb => ?_, ho _ _ C.pr, ho _ _ C.mr, K _ _ (ne _ _ C.pr (by simp)) C.pb, ?_, ?_, ?_, ?_, C.pnd.keeps K (fun s hs => ne _ _ (C.pndr s hs) (by simp)), fun s hs => ho _ _ (C.pndr s hs), ?_, ?_, ?_, ?_, ?_, ?_, ?_, ?_, C.lim, C.lft⟩, ⟨fun b X hb hX => ?_, by simp, fun b hb => ?_⟩⟩
  · simp only [ne_eq] at hb
    simp only [List.length_set, List.length_append, List.length_cons, List.length_nil]
    split at hb
    · omega
    · have := C.live b hb; omega
  · rw [List.getElem?_set_self (by simp; omega), hB]
  · rw [List.map_append, List.map_append, C.ents]; rfl
  · rw [List.map_append, List.nodup_append]
    refine ⟨C.born, by simp, fun a ha b hb => ?_⟩
    obtain ⟨e, he, rfl⟩ := List.mem_map.1 ha
    have := C.clk e he
    simp at hb; omega
  · intro e he
    rcases List.mem_append.1 he with he | he
    · have := C.clk e he; omega
    · simp at he; subst he; simp
  · intro g hg
    rcases List.mem_append.1 hg with hg | hg
    · exact (C.file g hg).keeps K (fun b hc => by rcases hc with ⟨h1, _⟩ | h1 | h1 <;> exact ne _ _ h1 (by simp)) ho
    · simp only [List.mem_singleton] at hg
      subst hg
      refine ⟨by simp [mkF], none, none, ?_, .inl ⟨rfl, rfl⟩, .inl ⟨rfl, rfl⟩, by simp, by simp⟩
      rw [List.getElem?_set, if_neg (by simp only [mkF]; omega), List.getElem?_append_right (by simp [mkF])]
      simp [mkF]
  · rw [List.map_append, List.nodup_append]
    refine ⟨C.names, by simp, fun a ha b hb => ?_⟩
    simp [mkF] at hb; subst hb
    intro he; subst he; exact find_none hs ha
  · rw [List.map_append, List.nodup_append]
    refine ⟨C.blocks, by simp, fun a ha b hb => ?_⟩
    obtain ⟨g, hg, rfl⟩ := List.mem_map.1 ha
    have := C.live g.b (by simp [(C.file g hg).role])
    simp [mkF] at hb; omega
  · intro x hx
    obtain ⟨g, hg, h1⟩ := C.pfile x hx
    exact ⟨g, List.mem_append_left _ hg, h1⟩
  · intro g hg
    rcases List.mem_append.1 hg with hg | hg
    · exact C.safe g hg
    · simp at hg; subst hg; simp [mkF]
  · intro g hg
    rcases List.mem_append.1 hg with hg | hg
    · exact C.nlen g hg
    · simp at hg; subst hg; exact h24
  · simp; omega
  · have := C.used
    simp [mkF]; exact this
  · exact K _ _ (fun he => by subst he; exact hb (by show ow _ ≠ none; rw [C.mr]; simp)) hX
  · simp only [ne_eq] at hb
    split at hb
    · right; omega
    · exact .inl hb

theorem deed_files : D.deed.2.files = D.files := by
  unfold DS.deed
  split
  · rfl
  · split <;> rfl
theorem deed_pends : D.deed.2.pends = D.pends := by
  unfold DS.deed
  split
  · rfl
  · split <;> rfl
theorem deed_limit : D.deed.2.limit = D.limit := by
  unfold DS.deed
  split
  · rfl
  · split <;> rfl

/-- Create. -/
def DS.create (D : DS) (s : Bs) (b : Nat) : Int × DS :=
  if !mayN s then (1, D) else if D.off then (50, D) else if (D.find s).isSome then (5, D) else if 256 ≤ D.files.length then (2, D)
  else if D.deed.1 = 0 then (0, { D.deed.2 with files := D.files ++ [mkF b s] }) else D.deed
theorem d34 (R : DiskR h ow p D) {s : Bs} (hQ : ∀ b h' ow', DiskR h' ow' p (D.create s b).2 → DStep ow h ow' h' → Q (.int .i64 (D.create s b).1) h') : AC Try.prog 34 [.ptr (some ⟨p, 0⟩), .str s] h Q := ac34 (by
  unfold vc34 PNew
  refine d86 R ⟨_, rfl, ?_⟩
  refine d87 ⟨_, rfl, vif_mk (fun g => ?_) (fun g => ?_)⟩
  · have := hQ 0 h ow
    unfold DS.create at this
    rw [if_pos g] at this
    exact this R (.refl _ _)
  refine d88 R ⟨_, rfl, ?_⟩
  cases ho : D.off with
  | true =>
    have := hQ 0 h ow
    unfold DS.create at this
    rw [g, ho] at this
    exact this R (.refl _ _)
  | false =>
    have R0 := R
    obtain ⟨m, qp, es, cl, C⟩ := R
    refine ⟨_, C.at (k := 0) rfl, C.look (fun hn => ⟨_, rfl, ?_⟩) fun f hf hm hs => ⟨_, rfl, ?_⟩⟩
    rotate_left
    · have := hQ 0 h ow
      unfold DS.create at this
      rw [g, ho, hf] at this
      exact this R0 (.refl _ _)
    refine ⟨_, C.at (k := 0) rfl, ?_⟩
    have hlen : es.length = D.files.length := by have := congrArg List.length C.ents; simpa using this
    show vLenM h (some m) _
    unfold vLenM
    have hm : mapEs h (some m) = some es := by simp only [mapEs, C.mb]
    rw [hm]
    simp only [hlen]
    refine vif_mk (fun g2 => ?_) (fun g2 => ?_)
    · replace g2 := of_decide_eq_true g2
      have := hQ 0 h ow
      unfold DS.create at this
      rw [g, ho, hn] at this
      simp only [Bool.false_eq_true, if_false, Option.isSome_none] at this
      rw [if_pos (by omega)] at this
      exact this R0 (.refl _ _)
    · replace g2 := of_decide_eq_false g2
      have fin : ∀ b, D.create s b = if D.deed.1 = 0 then (0, { D.deed.2 with files := D.files ++ [mkF b s] }) else D.deed := by
        intro b
        unfold DS.create
        rw [g, ho, hn]
        simp only [Bool.false_eq_true, if_false, Option.isSome_none]
        rw [if_neg (by omega)]
      simp only [fin] at hQ
      refine d89 R0 fun h20 R20 S20 => ⟨_, rfl, vif_mk (fun g3 => ?_) (fun g3 => ?_)⟩
      · have g3 : D.deed.1 = 0 := by simpa using g3
        simp only [if_pos g3] at hQ
        obtain ⟨m2, qp2, es2, cl2, C2⟩ := R20
        refine ⟨_, C2.at (k := 0) rfl, ?_⟩
        show vMap (some m2) _
        unfold vMap
        simp only
        have hmb : (h20 ++ [Blk.cells [.str s, .sl none, .sl none] true])[m2]? = some (.mp es2 cl2) := by
          rw [List.getElem?_append_left (C2.live m2 (by simp [C2.mr]))]; exact C2.mb
        unfold PUpdate
        rw [hmb]
        have hk : keyOk Try.prog 9 (.str s) = true := by simp only [keyOk, Try.underlying9]
        simp only [hk, isTup, Bool.not_false, Bool.and_true, need]
        have hfd : D.deed.2.find s = none := by unfold DS.find; rw [deed_files]; exact hn
        have hff : D.deed.2.files.find? (fun f => f.name == s) = none := hfd
        refine findP_file Try.underlying9 C2.ents (fun _ => ?_) fun j f n e1 _ _ => by rw [hff] at e1; cases e1
        have h24 : s.length ≤ 24 := by
          simp only [mayN, Bool.not_eq_false', Bool.and_eq_true, decide_eq_true_eq] at g; exact g.2
        obtain ⟨ow', C3, S3⟩ := C2.addFile hfd h24 (by rw [deed_files]; omega)
        rw [deed_files] at C3
        have := hQ h20.length _ ow' ⟨_, _, _, _, C3⟩ (S20.trans S3)
        rw [g3]
        exact this
      · have g3 : ¬ D.deed.1 = 0 := by simpa using g3
        simp only [if_neg g3] at hQ
        exact hQ 0 _ _ R20 S20)
end
end Go.Proofs.Ytceplmmmlindnaa

/- The disk: lists, what is used, writes. -/
namespace Go.Proofs.Ytceplmmmlindnaa
open Go.Ab
set_option linter.unusedVariables false
set_option linter.unusedSimpArgs false

def lisE : Enc (Bs × Nat) := ⟨2, fun x => [.str x.1, .int .i64 (x.2 : Nat)], fun _ => rfl, by omega, fun _ => rfl⟩
def DS.lenOf (D : DS) (n : Bs) : Nat := match D.find n with | some f => f.now.length | none => 0
def DS.namesL (D : DS) : List Bs := docNames (D.files.map (·.name))
def DS.list (D : DS) : List (Bs × Nat) := D.namesL.map fun n => (n, D.lenOf n)
def DS.used (D : DS) : Nat := (D.files.map (·.now.length)).sum

section
variable {h h' : Heap} {ow ow' : Roles} {p m : Nat} {qp : Option SL} {es : Ents} {cl : Nat} {D : DS} {f f' : FA} {Q : AV → Heap → Prop}

theorem find_self (hn : (D.files.map (·.name)).Nodup) (hf : f ∈ D.files) : D.find f.name = some f := by
  have : (D.files.find? (fun g => g.name == f.name)).isSome := by
    rw [List.find?_isSome]; exact ⟨f, hf, by simp⟩
  obtain ⟨g, hg⟩ := Option.isSome_iff_exists.1 this
  have h1 := List.mem_of_find?_eq_some hg
  have h2 : g.name = f.name := by simpa using List.find?_some hg
  rw [DS.find, hg, uniq_n hn h1 hf h2]
theorem find_mem {s : Bs} (h : D.find s = some f) : f ∈ D.files ∧ f.name = s := ⟨List.mem_of_find?_eq_some h, by simpa using List.find?_some h⟩

theorem list_sum (hn : (D.files.map (·.name)).Nodup) : (D.list.map (·.2)).sum = D.used := by
  have h1 : D.list.map (·.2) = D.namesL.map D.lenOf := by simp [DS.list, List.map_map, Function.comp_def]
  have hp : D.namesL.Perm (D.files.map (·.name)) := (List.perm_ext_iff_of_nodup docNames_nodup hn).2 fun s => docNames_mem
  have h2 : (D.files.map (·.name)).map D.lenOf = D.files.map (·.now.length) := by
    rw [List.map_map]
    apply List.map_congr_left
    intro g hg
    simp only [Function.comp, DS.lenOf, find_self hn hg]
  rw [h1, DS.used, ← h2]
  exact (hp.map D.lenOf).sum_nat
theorem sum_take_le (l : List Nat) (i : Nat) : (l.take i).sum ≤ l.sum := by
  conv => rhs; rw [← List.take_append_drop i l, List.sum_append]
  omega

/-- List -/
theorem d46 (R : DiskR h ow p D) (hQ : ∀ q h', New lisE h h' q D.list → Q (.sl q) h') : AC Try.prog 46 [.ptr (some ⟨p, 0⟩)] h Q := ac46 (by
  unfold vc46 PNew
  refine d86 R ⟨_, rfl, vif_mk (fun g => by cases g) (fun _ => ?_)⟩
  obtain ⟨m, qp, es, cl, C⟩ := R
  refine ⟨_, C.at (k := 0) rfl, ?_⟩
  have hml := C.live m (by simp [C.mr])
  refine keys_ac (g := 125) (by kernel_rfl) Try.keysLaw96 ⟨_, rfl, rfl, ?_⟩
  have hx1 : Ext h (h ++ [Blk.bx (.map (some m))]) := .app _ _
  have hss := keyStrs_of C.ents
  have hmany := C.many
  refine sorted_ac (kt := 9) (m := m) (cl := cl) (es := es) (ss := D.files.map (·.name)) (ss' := D.namesL) (by kernel_rfl) Try.underlying9 Try.sortedLaw125 (by simp) (hx1 _ _ C.mb) hss ?_ ?_ C.names C.born C.clk (by simp; omega) (fun s hs => ?_) ?_
  · exact (List.perm_ext_iff_of_nodup docNames_nodup C.names).2 fun s => docNames_mem
  · refine docNames_sorted.imp fun hab => ?_
    simp only [leB, decide_eq_true_eq]
    exact List.le_of_lt hab
  · obtain ⟨g, hg, rfl⟩ := List.mem_map.1 hs
    have := C.nlen g hg; omega
  · have hx2 : Ext (h ++ [Blk.bx (.map (some m))]) (sortedH (h ++ [Blk.bx (.map (some m))]) D.namesL) := sortedH_ext
    obtain ⟨q, e1, e2⟩ := sortedV_has (h := h ++ [Blk.bx (.map (some m))]) (l := D.namesL)
    have hxs := hx1.trans hx2
    rw [e1]
    generalize sortedH (h ++ [Blk.bx (.map (some m))]) D.namesL = hS at *
    have hlen := e2.len
    have hnl : D.namesL.length ≤ 256 := by
      have := docNames_len (l := D.files.map (·.name)); simp at this; unfold DS.namesL; omega
    refine ⟨q, rfl, fun xs h17 => ∃ (q13 : Option SL) (i : Nat), xs = [.sl q13, .int .i64 i] ∧ i ≤ D.namesL.length ∧ New lisE hS h17 q13 (D.list.take i), fun xs _ => match xs with | [_, .int _ i] => (D.namesL.length - i).toNat | _ => 0, ⟨none, 0, rfl, by omega, by simpa using New.none⟩, ?_⟩
    rintro q13 n14 h17 ⟨q13', i, hx, hi, N⟩
    simp only [List.cons.injEq, AV.int.injEq, AV.sl.injEq, true_and, and_true] at hx
    obtain ⟨rfl, rfl⟩ := hx
    refine vif_mk (fun g => ?_) (fun g => ?_)
    · replace g := of_decide_eq_true g
      refine HasL.idx (E := strE) (e2.mono N.1) (by omega) (by omega) fun pp x hx hc => ⟨x, hc, ?_⟩
      have hx' : D.namesL[i]? = some x := by simpa using hx
      have C17 : DiskC h17 ow p m qp es cl D := C.ext (keeps_of_ext (hxs.trans N.1)) (hxs.trans N.1).len
      refine ⟨_, C17.at (k := 0) rfl, ?_⟩
      have hxm : x ∈ D.files.map (·.name) := docNames_mem.1 (List.mem_of_getElem? hx')
      obtain ⟨g0, hg0, hgn⟩ := List.mem_map.1 hxm
      refine C17.look (fun hn => (find_none hn hxm).elim) fun f hf hm hs => ⟨_, rfl, ?_⟩
      obtain ⟨qn, qs, c0, c1, c2, c, a1, a2, r1, r2⟩ := (C17.file f hm).at
      refine ⟨qn, c1, ?_⟩
      rw [a1.hasL.len]
      refine New.append (E := lisE) (m := [(x, f.now.length)]) (N.ext (Ext.app _ _)) (HasL.new (E := lisE) (l := [(x, f.now.length)]) (n := 1) rfl rfl) (by simp; omega) fun q28 h29 N2 => ?_
      rw [wrapK_i64 ⟨by omega, by omega⟩]
      refine ⟨trivial, ⟨q28, i + 1, by simp, by omega, ?_⟩, by simp only; omega⟩
      have : D.list.take (i + 1) = D.list.take i ++ [(x, f.now.length)] := by
        rw [List.take_add_one]
        simp only [DS.list, List.getElem?_map, hx', Option.map_some, Option.toList_some]
        simp only [DS.lenOf, hf]
      rw [this]; exact N2
    · replace g := of_decide_eq_false g
      have hi' : i = D.namesL.length := by omega
      subst hi'
      rw [List.take_of_length_le (by simp [DS.list])] at N
      exact hQ _ _ (N.of hxs))

/-- Used -/
theorem d48 (R : DiskR h ow p D) (hQ : ∀ h', Ext h h' → Q (.int .i64 (D.used : Nat)) h') : AC Try.prog 48 [.ptr (some ⟨p, 0⟩)] h Q := ac48 (by
  unfold vc48
  refine d46 R fun q h3 N => ⟨q, rfl, ?_⟩
  obtain ⟨m, qp, es, cl, C⟩ := R
  have hs := list_sum C.names
  have hu : D.used ≤ 16384 := C.used
  have hlen := N.hasL.len
  have hll : D.list.length ≤ 256 := by
    have := docNames_len (l := D.files.map (·.name)); have := C.many
    simp [DS.list, DS.namesL] at *; omega
  refine ⟨fun xs h9 => h9 = h3 ∧ ∃ i : Nat, xs = [.int .i64 (((D.list.take i).map (·.2)).sum : Nat), .int .i64 i] ∧ i ≤ D.list.length, fun xs _ => match xs with | [_, .int _ i] => (D.list.length - i).toNat | _ => 0, ⟨rfl, 0, by simp, by omega⟩, ?_⟩
  rintro n5 n6 h9 ⟨rfl, i, hx, hi⟩
  simp only [List.cons.injEq, AV.int.injEq, true_and, and_true] at hx
  obtain ⟨rfl, rfl⟩ := hx
  refine vif_mk (fun g => ?_) (fun g => ?_)
  · replace g := of_decide_eq_true g
    refine HasL.idx (E := lisE) N.hasL (by omega) (by omega) fun pp x hx hc => ⟨x.1, _, hc, ?_⟩
    have hx' : D.list[i]? = some x := by simpa using hx
    have e : ((D.list.take (i + 1)).map (·.2)).sum = ((D.list.take i).map (·.2)).sum + x.2 := by
      rw [List.take_add_one, hx']; simp
    have hle : ((D.list.take (i + 1)).map (·.2)).sum ≤ D.used := by
      rw [← hs, List.map_take]; exact sum_take_le (D.list.map (·.2)) (i + 1)
    have e2 : ((((D.list.take i).map (·.2)).sum : Nat) : Int) + (x.2 : Nat) = (((D.list.take (i + 1)).map (·.2)).sum : Nat) := by omega
    rw [e2, wrapK_i64 ⟨by omega, by omega⟩, wrapK_i64 ⟨by omega, by omega⟩]
    exact ⟨trivial, ⟨rfl, i + 1, by simp, by omega⟩, by simp only; omega⟩
  · replace g := of_decide_eq_false g
    have hi' : i = D.list.length := by omega
    subst hi'
    rw [List.take_length, hs]
    exact hQ _ N.1)

/-- Sector -/
theorem d37 {c : UInt8} (hQ : ∀ q h', New byE h h' q (List.replicate 64 c) → Q (.sl q) h') : AC Try.prog 37 [.int .u8 (c.toNat : Nat)] h Q := ac37 (by
  unfold vc37
  refine ⟨by omega, by omega, by simp, by simp only [maxI]; omega, ?_⟩
  simp only [Int.toNat_natCast]
  have hz : (List.replicate (64 : Int).toNat [AV.int .u8 0]).flatten = byteAVs (List.replicate 64 0) := zeros_flat
  rw [hz]
  refine ⟨fun xs h7 => ∃ (i : Nat) (cur : Bs), xs = [.int .i64 i] ∧ i ≤ 64 ∧ h7 = h ++ [.cells (byteAVs cur) true] ∧ cur.length = 64 ∧ cur.take i = List.replicate i c, fun xs _ => match xs with | [.int _ i] => (64 - i).toNat | _ => 0, ⟨0, _, rfl, by omega, rfl, by simp, rfl⟩, ?_⟩
  rintro n4 h7 ⟨i, cur, hx, hi, rfl, hl, ht⟩
  simp only [List.cons.injEq, AV.int.injEq, true_and, and_true] at hx
  subst hx
  refine vif_mk (fun g => ?_) (fun g => ?_)
  · replace g := of_decide_eq_true g
    refine ⟨by omega, by simp only; omega, ?_⟩
    unfold PStore
    simp only [Int.toNat_natCast, Nat.mul_one, Nat.zero_add]
    rw [List.getElem?_append_right (by omega)]
    simp only [Nat.sub_self, List.getElem?_cons_zero]
    rw [wrapK_i64 ⟨by omega, by omega⟩]
    refine ⟨by rw [byAV_len, hl]; simp; omega, trivial, ⟨i + 1, cur.set i c, by simp, by omega, ?_, by simp [hl], ?_⟩, by omega⟩
    · rw [splice_set (by omega)]; simp
    · rw [List.take_add_one, List.take_set_of_le (Nat.le_refl _), ht, List.getElem?_set_self (by omega), List.replicate_succ']; rfl
  · replace g := of_decide_eq_false g
    have hi' : i = 64 := by omega
    subst hi'
    have : cur = List.replicate 64 c := by rw [← ht, List.take_of_length_le (by omega)]
    subst this
    exact hQ _ _ (New.mk1 (E := byE) (by simp) byE_all.symm))
end
end Go.Proofs.Ytceplmmmlindnaa

/- The disk: a pending write; Append. -/
namespace Go.Proofs.Ytceplmmmlindnaa
open Go.Ab
set_option linter.unusedVariables false
set_option linter.unusedSimpArgs false

section
variable {h h' : Heap} {ow ow' : Roles} {p m : Nat} {qp : Option SL} {es : Ents} {cl : Nat} {D : DS} {f f' : FA} {Q : AV → Heap → Prop}

/-- What is pending is another list. -/
theorem DiskC.setPend (C : DiskC h ow p m qp es cl D) {h1 : Heap} {q' : Option SL} {l' : List PD} (A : AppJ pendE h1 q' l') (K : Keeps (fun b => ow b = some .pends) h h1) (hl : h.length ≤ h1.length)
    (hq : ∀ s, q' = some s → h.length ≤ s.b ∨ ow s.b = some .pends) (hp : ∀ x ∈ l', ∃ f ∈ D.files, f.b = x.1 ∧ x.2.1 < f.now.length) {B : Blk} (hB : B = .cells [.map (some m), .sl q', .int .i64 D.limit, .int .i64 D.left, .bool D.off] true) :
    DiskC (h1.set p B) (setOw ow q' .pends) p m q' es cl { D with pends := l' } ∧ DStep ow h (setOw ow q' .pends) (h1.set p B) := by
  have ho := setOw_keep (r := .pends) C.live hq
  have hpl := C.live p (by simp [C.pr])
  have K2 : Keeps (fun b => b = p ∨ ow b = some .pends) h (h1.set p B) := by
    intro b X hb hX
    rw [List.getElem?_set, if_neg (fun e => hb (.inl e.symm))]
    exact K _ _ (fun h => hb (.inr h)) hX
  have ne : ∀ b r, ow b = some r → r ≠ .disk → r ≠ .pends → ¬ (b = p ∨ ow b = some .pends) := by
    intro b r hr h1 h2 hc
    rcases hc with rfl | hc
    · rw [C.pr] at hr; exact h1 (Option.some.inj hr).symm
    · rw [hr] at hc; exact h2 (Option.some.inj hc)
  have hqp : ∀ s, q' = some s → s.b ≠ p := by
    intro s hs he
    rcases hq s hs with h | h
    · omega
    · rw [he, C.pr] at h; cases h
  refine ⟨⟨fun b hb => ?_, ho _ _ C.pr, ho _ _ C.mr, ?_, K2 _ _ (ne _ _ C.mr (by simp) (by simp)) C.mb, C.ents, C.born, C.clk, ?_, setOw_self, fun f hf => ?_, C.names, C.blocks, hp, C.safe, C.nlen, C.many, C.used, C.lim, C.lft⟩, ⟨fun b X hb hX => ?_, by simpa using hl, fun b hb => setOw_some hq b hb⟩⟩
  · rw [List.length_set]
    rcases setOw_some hq b hb with h | h
    · exact Nat.lt_of_lt_of_le (C.live b h) hl
    · have : ∃ s, q' = some s ∧ b = s.b := by
        unfold setOw at hb
        cases q' with
        | none => have := C.live b hb; omega
        | some s =>
          simp only at hb
          split at hb
          · rename_i he; exact ⟨s, rfl, he⟩
          · have := C.live b hb; omega
      obtain ⟨s, hs, rfl⟩ := this
      exact A.live s hs
  · rw [List.getElem?_set_self (by omega), hB]
  · refine A.keeps (X := fun b => b = p) (keeps_set rfl) (fun s hs => hqp s hs)
  · exact (C.file f hf).keeps K2 (fun b hc => by rcases hc with ⟨h1, _⟩ | h1 | h1 <;> exact ne _ _ h1 (by simp) (by simp)) ho
  · refine K2 _ _ (fun hx => hb ?_) hX
    show ow b ≠ none
    rcases hx with rfl | hx
    · rw [C.pr]; simp
    · rw [hx]; simp

/-- A file's sectors as written last are others. -/
theorem DiskC.setNow (C : DiskC h ow p m qp es cl D) (hf : f ∈ D.files) {h1 : Heap} {qn qs q' : Option SL} (hc : h[f.b]? = some (.cells [.str f.name, .sl qn, .sl qs] true)) (a2 : AppJ secE h qs f.safe) (r2 : ∀ s, qs = some s → ow s.b = some (.safe f.b))
    {now' : List Bs} (A : AppJ secE h1 q' now') (K : Keeps (fun b => ow b = some (.now f.b)) h h1) (hl : h.length ≤ h1.length) (hq : ∀ s, q' = some s → h.length ≤ s.b ∨ ow s.b = some (.now f.b))
    (hpf : ∀ x ∈ D.pends, x.1 = f.b → x.2.1 < now'.length) (hs : f.safe.length ≤ now'.length) (hu : ((upF D.files { f with now := now' }).map (·.now.length)).sum ≤ 16384) {B : Blk} (hB : B = .cells [.str f.name, .sl q', .sl qs] true) :
    DiskC (h1.set f.b B) (setOw ow q' (.now f.b)) p m qp es cl { D with files := upF D.files { f with now := now' } } ∧ DStep ow h (setOw ow q' (.now f.b)) (h1.set f.b B) := by
  have ho := setOw_keep (r := .now f.b) C.live hq
  have hfr := (C.file f hf).role
  have hfl := C.live f.b (by simp [hfr])
  have hqf : ∀ s, q' = some s → s.b ≠ f.b := by
    intro s hs he
    rcases hq s hs with h | h
    · omega
    · rw [he, hfr] at h; cases h
  have K2 : Keeps (fun b => b = f.b ∨ ow b = some (.now f.b)) h (h1.set f.b B) := by
    intro b X hb hX
    rw [List.getElem?_set, if_neg (fun e => hb (.inl e.symm))]
    exact K _ _ (fun h => hb (.inr h)) hX
  refine C.upFile (f' := { f with now := now' }) hf rfl rfl ?_ (fun b X hb hX => K2 _ _ (fun hx => hb (hx.imp id .inl)) hX) (by simpa using hl) ho (fun b hb => ?_) (fun b hb => setOw_some hq b hb) hpf hs hu
  · refine ⟨ho _ _ hfr, q', qs, ?_, ?_, ?_, setOw_self, fun s hs => ho _ _ (r2 s hs)⟩
    · show (h1.set f.b B)[f.b]? = _
      rw [List.getElem?_set_self (by omega), hB]
    · exact A.keeps (X := fun b => b = f.b) (keeps_set rfl) (fun s hs => hqf s hs)
    · refine a2.keeps K2 (fun s hs hx => ?_)
      have := r2 s hs
      rcases hx with hx | hx
      · rw [hx, hfr] at this; cases this
      · rw [this] at hx; cases hx
  · rw [List.length_set]
    rcases setOw_some hq b hb with h | h
    · exact Nat.lt_of_lt_of_le (C.live b h) hl
    · have : ∃ s, q' = some s ∧ b = s.b := by
        unfold setOw at hb
        cases q' with
        | none => have := C.live b hb; omega
        | some s =>
          simp only at hb
          split at hb
          · rename_i he; exact ⟨s, rfl, he⟩
          · have := C.live b hb; omega
      obtain ⟨s, hs, rfl⟩ := this
      exact A.live s hs

theorem splice_full {c xs : List AV} (h : c.length = xs.length) : splice c 0 xs = xs := by
  simp [splice, ← h]
theorem sec_full {r s : Bs} : secE.f s = splice (secE.f r) 0 (secA s) := by
  rw [splice_full (by show (secA r).length = (secA s).length; simp [cel_len])]; rfl

/-- write -/
def DS.write (D : DS) (f : FA) (i : Nat) (s : Bs) : DS := { D with files := upF D.files { f with now := f.now.set i s }, pends := D.pends ++ [(f.b, i, s)] }
theorem d91 (R : DiskR h ow p D) (hf : f ∈ D.files) {i : Nat} (hi : i < f.now.length) {s : Bs} (hpl : D.pends.length ≤ 1000000) (hQ : ∀ h' ow', DiskR h' ow' p (D.write f i s) → DStep ow h ow' h' → Q (.tup []) h') :
    AC Try.prog 91 [.ptr (some ⟨p, 0⟩), .ptr (some ⟨f.b, 0⟩), .int .i64 (i : Nat), .agg (cel .u8 64 (secB s))] h Q := ac91 (by
  unfold vc91 PNew
  obtain ⟨m, qp, es, cl, C⟩ := R
  obtain ⟨qn, qs, c0, c1, c2, c, a1, a2, r1, r2⟩ := (C.file f hf).at
  have hfr := (C.file f hf).role
  refine ⟨qn, c1, ?_⟩
  refine AppJ.idx (E := secE) a1 (by omega) (by omega) fun pp x hx hcx hpp => ?_
  have hx' : f.now[i]? = some x := by simpa using hx
  refine AppJ.store (E := secE) (k := 0) (r' := s) (xs := secA s) a1 hx' (by show 0 + (secA s).length ≤ 64; simp [cel_len]) sec_full (p := pp) (fun s' hs' => by rw [hpp s' hs']; simp) fun h8 A8 K8 hl8 => ?_
  have hsum := upF_sum (fs := D.files) (f := f) (f' := { f with now := f.now.set i s }) (·.now.length) C.blocks hf rfl
  have hu := C.used
  have K8' : Keeps (fun b => ow b = some (.now f.b)) h h8 := by
    intro b X hb hX
    exact K8 _ _ (fun ⟨s', h1, h2⟩ => hb (by rw [← h2]; exact r1 s' h1)) hX
  have F8 : FileR h8 ow { f with now := f.now.set i s } := by
    refine ⟨hfr, qn, qs, K8' _ _ (by simp [hfr]) c, A8, a2.keeps K8' (fun s' hs' => by simp [r2 s' hs']), r1, r2⟩
  obtain ⟨C8, S8⟩ := C.upFile (f' := { f with now := f.now.set i s }) hf rfl rfl F8 (fun b X hb hX => K8' _ _ (fun hx => hb (.inr (.inl hx))) hX) (by omega) (fun _ _ h => h) (fun b hb => by rw [hl8]; exact C.live b hb) (fun b hb => .inl hb)
    (fun x hx hxb => by
      obtain ⟨g, hg, h1, h2⟩ := C.pfile x hx
      have := uniq_b C.blocks hg hf (by rw [h1, hxb])
      subst this
      simpa using h2) (by have := C.safe f hf; simpa using this) (by simp only [List.length_set] at hsum; omega)
  refine ⟨qp, C8.at (k := 1) rfl, ?_⟩
  have hx12 : Ext h8 (h8 ++ [Blk.cells ([AV.ptr (some ⟨f.b, 0⟩), .int .i64 (i : Nat)] ++ cel .u8 64 (secB s)) true]) := .app _ _
  refine ⟨⟨qp, hx12.cells (C8.at (k := 1) rfl), rfl⟩, ?_⟩
  have H1 : HasL pendE (h8 ++ [Blk.cells ([AV.ptr (some ⟨f.b, 0⟩), .int .i64 (i : Nat)] ++ cel .u8 64 (secB s)) true]) (some ⟨h8.length, 0, 1, 1, 0⟩) [(f.b, i, s)] :=
    HasL.new (E := pendE) (l := [(f.b, i, s)]) (n := 1) rfl (by simp [Enc.all, pendE])
  refine AppJ.append (E := pendE) (C8.pnd.ext hx12) H1 (by simp; omega) fun q13 h14 A14 K14 hl14 hq14 => ?_
  have K14' : Keeps (fun b => ow b = some .pends) h8 h14 := by
    intro b X hb hX
    exact K14 _ _ (fun ⟨s', h1, h2⟩ => hb (by rw [← h2]; exact C8.pndr s' h1)) (hx12 _ _ hX)
  have hpb : h14[p]? = some (.cells [.map (some m), .sl qp, .int .i64 D.limit, .int .i64 D.left, .bool D.off] true) := K14' _ _ (by simp [C.pr]) C8.pb
  refine store6v hpb (by simp) ?_
  simp only [List.length_append, List.length_cons, List.length_nil] at hl14 hq14
  obtain ⟨C16, S16⟩ := C8.setPend (l' := D.pends ++ [(f.b, i, s)]) (q' := q13) A14 K14' (by omega) (fun s' hs' => by
      rcases hq14 s' hs' with h | ⟨s2, h1, h2⟩
      · left; omega
      · right; rw [← h2]; exact C8.pndr s2 h1) (fun x hx => by
      rcases List.mem_append.1 hx with hx | hx
      · exact C8.pfile x hx
      · simp only [List.mem_singleton] at hx
        subst hx
        exact ⟨{ f with now := f.now.set i s }, List.mem_map.2 ⟨f, hf, by simp⟩, rfl, by simpa using hi⟩) (B := .cells (splice [.map (some m), .sl qp, .int .i64 D.limit, .int .i64 D.left, .bool D.off] (0 + 1) [.sl q13]) true) rfl
  exact hQ _ _ ⟨_, _, _, _, C16⟩ (S8.trans S16))

/-- Append. -/
def DS.append (D : DS) (s : Bs) (b : Bs) : Int × DS :=
  if b.length ≠ 64 then (1, D) else if D.off then (50, D) else match D.find s with
  | none => (4, D)
  | some f => if D.limit ≤ D.used then (2, D) else if D.deed.1 = 0 then (0, { D.deed.2 with files := upF D.files { f with now := f.now ++ [b] }, pends := D.pends ++ [(f.b, f.now.length, b)] }) else D.deed
theorem upF_upF {fs : List FA} {f1 f2 : FA} (h : f2.b = f1.b) : upF (upF fs f1) f2 = upF fs f2 := by
  rw [upF, upF, upF, List.map_map]
  apply List.map_congr_left
  intro g _
  simp only [Function.comp, h]
  split
  · simp
  · rename_i hne; simp [hne]

set_option maxRecDepth 20000 in
theorem d36 (R : DiskR h ow p D) {s b : Bs} {q : Option SL} (H : HasL byE h q b) (hqo : ∀ s, q = some s → ow s.b = none) (hpl : D.pends.length ≤ 1000000)
    (hQ : ∀ h' ow', DiskR h' ow' p (D.append s b).2 → DStep ow h ow' h' → Q (.int .i64 (D.append s b).1) h') : AC Try.prog 36 [.ptr (some ⟨p, 0⟩), .str s, .sl q] h Q := ac36 (by
  unfold vc36
  refine d86 R ⟨_, rfl, vif_mk (fun _ => ?_) (fun g => by cases g)⟩
  have hbl := H.len
  refine vif_mk (fun g => ?_) (fun g => ?_)
  · have g : ¬ b.length = 64 := by simp [hbl] at g; omega
    have := hQ h ow
    unfold DS.append at this
    rw [if_pos g] at this
    exact this R (.refl _ _)
  have hb64 : b.length = 64 := by simp [hbl] at g; omega
  clear g
  unfold DS.append at hQ
  rw [if_neg (by omega)] at hQ
  refine d90 R (fun ho => ⟨_, _, rfl, ?_⟩) (fun ho hn => ⟨_, _, rfl, ?_⟩) fun f ho hfd hf hfn => ⟨_, _, rfl, ?_⟩
  · rw [ho] at hQ
    exact hQ h ow R (.refl _ _)
  · rw [ho, hn] at hQ
    exact hQ h ow R (.refl _ _)
  rw [ho, hfd] at hQ
  simp only [Bool.false_eq_true, if_false] at hQ
  have R0 := R
  obtain ⟨m, qp, es, cl, C⟩ := R
  show ∃ n12 : Int, _
  refine ⟨D.limit, C.at (k := 2) rfl, ?_⟩
  refine d48 R0 fun h14 hx14 => ⟨_, rfl, ⟨D.limit, hx14.cells (C.at (k := 2) rfl), rfl⟩, ?_⟩
  have R14 := R0.grow hx14
  have S14 : DStep ow h ow h14 := .ext hx14
  refine vif_mk (fun g2 => ?_) (fun g2 => ?_)
  · replace g2 := of_decide_eq_true g2
    rw [if_pos (by omega)] at hQ
    exact hQ h14 ow R14 S14
  replace g2 := of_decide_eq_false g2
  rw [if_neg (by omega)] at hQ
  refine d89 R14 fun h17 R17 S17 => ⟨_, rfl, ?_⟩
  refine vif_mk (fun g3 => ?_) (fun g3 => ?_)
  · have g3 : ¬ D.deed.1 = 0 := by simpa using g3
    rw [if_neg g3] at hQ
    exact hQ h17 ow R17 (S14.trans S17)
  have g3 : D.deed.1 = 0 := by simpa using g3
  rw [if_pos g3] at hQ
  have S17' := S14.trans S17
  have hlimC := C.lim
  have hblk := C.blocks
  clear C
  obtain ⟨m, qp, es, cl, C⟩ := R17
  have hf17 : f ∈ D.deed.2.files := by rw [deed_files]; exact hf
  obtain ⟨qn, qs, c0, c1, c2, c, a1, a2, r1, r2⟩ := (C.file f hf17).at
  have hfr := (C.file f hf17).role
  refine ⟨qn, c1, ?_⟩
  unfold PNew
  have hx22 : Ext h17 (h17 ++ [Blk.cells (List.replicate 64 (AV.int .u8 0)) true]) := .app _ _
  have hul : D.used ≤ 16384 := by omega
  have hnl : f.now.length ≤ D.used := by
    have hsum := upF_sum (fs := D.files) (f := f) (f' := { f with now := [] }) (·.now.length) hblk hf rfl
    unfold DS.used; simp only [List.length_nil] at hsum; omega
  have hsum := upF_sum (fs := D.files) (f := f) (f' := { f with now := f.now ++ [[]] }) (·.now.length) hblk hf rfl
  refine AppJ.append (E := secE) (m := [([] : Bs)]) (a1.ext hx22) (HasL.new (E := secE) (l := [([] : Bs)]) (n := 1) rfl (by simp [Enc.all, secE, ← secA_zero])) (by simp; omega) fun q23 h24 A24 K24 hl24 hq24 => ?_
  simp only [List.length_append, List.length_cons, List.length_nil] at hl24 hq24
  have K24' : Keeps (fun b => ow b = some (.now f.b)) h17 h24 := by
    intro b X hb hX
    exact K24 _ _ (fun ⟨s', h1, h2⟩ => hb (by rw [← h2]; exact r1 s' h1)) (hx22 _ _ hX)
  have hcf : h24[f.b]? = some (.cells [.str f.name, .sl qn, .sl qs] true) := K24' _ _ (by simp [hfr]) c
  refine store6v hcf (by simp) ?_
  obtain ⟨C26, S26⟩ := C.setNow hf17 (q' := q23) (now' := f.now ++ [[]]) c a2 r2 A24 K24' (by omega) (fun s' hs' => by
      rcases hq24 s' hs' with h | ⟨s2, h1, h2⟩
      · left; omega
      · right; rw [← h2]; exact r1 s2 h1) (fun x hx hxb => by
      obtain ⟨g, hg, h1, h2⟩ := C.pfile x hx
      have := uniq_b C.blocks hg hf17 (by rw [h1, hxb])
      subst this
      simp; omega) (by have := C.safe f hf17; simp; omega) (by rw [deed_files]; simp only [List.length_append, List.length_cons, List.length_nil, DS.used] at *; omega)
      (B := .cells (splice [.str f.name, .sl qn, .sl qs] (0 + 1) [.sl q23]) true) rfl
  rw [deed_files] at C26
  generalize hh26 : h24.set f.b (.cells (splice [.str f.name, .sl qn, .sl qs] (0 + 1) [.sl q23]) true) = h26 at *
  have hf26 : ({ f with now := f.now ++ [[]] } : FA) ∈ upF D.files { f with now := f.now ++ [[]] } := List.mem_map.2 ⟨f, hf, by simp⟩
  have hcb : h26[f.b]? = some (.cells [.str f.name, .sl q23, .sl qs] true) := by
    rw [← hh26, List.getElem?_set_self (lt_of_get hcf)]; rfl
  refine ⟨q23, by rw [cells6 hcb (by simp)]; rfl, ?_⟩
  have S26' := S17'.trans S26
  have H26 : HasL byE h26 q b := S26'.keeps.hasL (fun s' hs' => by show ¬ (ow s'.b ≠ none); simp [hqo s' hs']) H
  cases q with
  | none => simp only [HasL] at H; subst H; simp at hb64
  | some sq =>
    have hsl : sq.len = 64 := by rw [← hb64]; exact H.1
    unfold vSl
    refine need_mk (by simp [hsl]) ?_
    refine exC_mk (b := secB b) ?_
    refine And.intro ?_ ?_
    · have := H26.2.2.2
      rw [hb64] at this
      have e : cel .u8 64 (secB b) = byE.all b := by rw [byE_all]; exact secA_bytes hb64
      rw [e]; exact this
    · have hl23 := A24.hasL.len
      have e : ((slLen q23 : Int) - 1) = ((f.now.length : Nat) : Int) := by rw [hl23]; simp
      rw [e, wrapK_i64 ⟨by omega, by omega⟩]
      refine d91 (f := { f with now := f.now ++ [[]] }) ⟨_, _, _, _, C26⟩ hf26 (i := f.now.length) (by simp) (by show D.deed.2.pends.length ≤ _; rw [deed_pends]; exact hpl) fun h32 ow32 R32 S32 => ⟨rfl, ?_⟩
      have hw : (DS.write { D.deed.2 with files := upF D.files { f with now := f.now ++ [[]] } } { f with now := f.now ++ [[]] } f.now.length b) = { D.deed.2 with files := upF D.files { f with now := f.now ++ [b] }, pends := D.pends ++ [(f.b, f.now.length, b)] } := by
        unfold DS.write
        simp only [deed_pends]
        have e1 : upF (upF D.files { f with now := f.now ++ [[]] }) { f with now := (f.now ++ [[]]).set f.now.length b } = upF D.files { f with now := (f.now ++ [[]]).set f.now.length b } := upF_upF (f1 := { f with now := f.now ++ [[]] }) rfl
        rw [e1]
        have : (f.now ++ [[]]).set f.now.length b = f.now ++ [b] := by simp
        rw [this]
      rw [hw] at R32
      exact hQ _ _ R32 (S26'.trans S32))
end
end Go.Proofs.Ytceplmmmlindnaa

/- Numbers and edits as bytes: what is put. -/
namespace Go.Proofs.Ytceplmmmlindnaa
open Go.Ab
set_option linter.unusedVariables false
set_option linter.unusedSimpArgs false

def encR (r : Rf) : Bs := numB r.1.length ++ r.1 ++ (numB r.2.1.toNat ++ numB r.2.2.toNat)
def encRs (l : List Rf) : Bs := l.flatMap encR
def encD (d : ED) : Bs := numB d.1.toNat ++ numB d.2.1.toNat ++ numB d.2.2.1.toNat ++ numB d.2.2.2.length ++ encRs d.2.2.2
abbrev M63 : Nat := 9223372036854775808

theorem wid_le {n : Nat} (h : n < M63) : wid n ≤ 8 := (wid_lt 8 n (by omega)).2 (by simp only [M63] at h; omega)
theorem numB_len {n : Nat} (h : n < M63) : (numB n).length ≤ 9 := by
  have := wid_le h
  unfold numB
  split
  · simp
  · split
    · simp
    · simp [beL_len]; omega
theorem encR_len {r : Rf} (h : refOk r = true) : (encR r).length ≤ 51 := by
  simp only [refOk, Bool.and_eq_true, decide_eq_true_eq] at h
  have h1 := numB_len (n := r.1.length) (by simp only [M63]; omega)
  have h2 := numB_len (n := r.2.1.toNat) (by simp only [M63]; omega)
  have h3 := numB_len (n := r.2.2.toNat) (by simp only [M63]; omega)
  simp only [encR, List.length_append]; omega
theorem encRs_len : ∀ {l : List Rf}, l.all refOk = true → (encRs l).length ≤ l.length * 51
  | [], _ => by simp [encRs]
  | r :: l, h => by
    rw [List.all_cons, Bool.and_eq_true] at h
    have h1 := encR_len h.1
    have h2 := encRs_len h.2
    simp only [encRs, List.flatMap_cons, List.length_append, List.length_cons] at *; omega
theorem encRs_take {l : List Rf} {i : Nat} {x : Rf} (h : l[i]? = some x) : encRs (l.take (i + 1)) = encRs (l.take i) ++ encR x := by
  rw [List.take_add_one, h]; simp [encRs]
theorem all_take {α : Type} {p : α → Bool} {l : List α} (i : Nat) (h : l.all p = true) : (l.take i).all p = true := by
  rw [List.all_eq_true] at *
  exact fun x hx => h x (List.mem_of_mem_take hx)

section
variable {h : Heap} {Q : AV → Heap → Prop}

theorem by1 {n : Nat} (hn : n < 256) : [AV.int .u8 (wrapK .u8 (n : Int))] = byE.all [UInt8.ofNat n] := by
  rw [u8c, Nat.mod_eq_of_lt hn]; rfl
theorem numB_lo {n : Nat} (hn : n < 240) : numB n = [UInt8.ofNat n] := by unfold numB; rw [if_pos hn]
theorem numB_mid {n : Nat} (h0 : ¬ n < 240) (hn : n < 2288) : numB n = [UInt8.ofNat (240 + (n - 240) / 256), UInt8.ofNat ((n - 240) % 256)] := by unfold numB; rw [if_neg h0, if_pos hn]
theorem numB_hi {n : Nat} (hn : ¬ n < 2288) : numB n = UInt8.ofNat (246 + wid n) :: beL n (wid n) := by unfold numB; rw [if_neg (by omega), if_neg hn]
theorem byMid {n : Nat} (h0 : ¬ n < 240) (hn : n < 2288) {x y : Int} (hx : x = ((240 + (n - 240) / 256 : Nat) : Int)) (hy : y = ((n - 240 : Nat) : Int)) : [AV.int .u8 (wrapK .u8 x), .int .u8 (wrapK .u8 y)] = byE.all (numB n) := by
  subst hx hy
  rw [numB_mid h0 hn, u8c, u8c, Nat.mod_eq_of_lt (by omega : 240 + (n - 240) / 256 < 256)]; rfl

set_option maxRecDepth 20000 in
/-- num.Put. -/
theorem t107 {n : Nat} (hn : n < M63) (hQ : ∀ q h', New byE h h' q (numB n) → Q (.tup [.sl q, .int .i64 0]) h') : AC Try.prog 107 [.int .i64 n] h Q := ac107 (by
  simp only [M63] at hn
  unfold vc107 PNew

  refine vif_mk (fun g => ?_) (fun _ => ?_)
  · replace g := of_decide_eq_true g
    omega
  refine vif_mk (fun g => ?_) (fun g => ?_)
  · replace g := of_decide_eq_true g
    exact hQ _ _ (New.mk1 (E := byE) (by rw [numB_lo (by omega)]; rfl) (by rw [numB_lo (by omega), by1 (by omega)]))
  refine vif_mk (fun g2 => ?_) (fun g2 => ?_)
  · replace g := of_decide_eq_false g
    replace g2 := of_decide_eq_true g2
    refine hQ _ _ (New.mk1 (E := byE) (by rw [numB_mid (by omega) (by omega)]; rfl) ?_)
    rw [wrapK_i64 (n := (n : Int) - 240) ⟨by omega, by omega⟩]
    have e : ((n : Int) - 240) = ((n - 240 : Nat) : Int) := by omega
    rw [e, shr8]
    exact byMid (by omega) (by omega) (wrapK_i64 ⟨by omega, by omega⟩) rfl
  · replace g := of_decide_eq_false g
    replace g2 := of_decide_eq_false g2
    have hw := wid_le (n := n) hn
    refine t131 hn ⟨_, rfl, ?_⟩
    refine t132 ⟨wid_pos, hw⟩ fun q13 h12 N => ⟨q13, rfl, ?_⟩
    rw [wrapK_i64 (n := 246 + ((wid n : Nat) : Int)) ⟨by omega, by omega⟩] at N
    have e : (246 + ((wid n : Nat) : Int)) = ((246 + wid n : Nat) : Int) := by omega
    rw [e, by1 (by omega)] at N
    have N1 : New byE h h12 (some ⟨h.length, 0, 1, 1, 0⟩) [UInt8.ofNat (246 + wid n)] := (New.mk1 (E := byE) rfl rfl).ext N.1
    refine New.append (E := byE) N1 N.hasL (by simp [beL_len]; omega) fun q14 h15 N2 => hQ _ _ ?_
    rw [numB_hi (by omega)]
    exact N2)

/-- num.Text. -/
theorem t62 {s : Bs} (hs : s.length ≤ 100000) (hQ : ∀ q h', New byE h h' q (numB s.length ++ s) → Q (.sl q) h') : AC Try.prog 62 [.str s] h Q := ac62 (by
  unfold vc62
  refine t107 (by simp only [M63]; omega) fun q4 h3 N => ⟨q4, _, rfl, ?_⟩
  have hl := numB_len (n := s.length) (by simp only [M63]; omega)
  rw [← byE_all]
  exact New.append0 (E := byE) N (by omega) fun q' h2 N2 => hQ _ _ N2)

/-- numbers. -/
theorem t60 {q : Option SL} {l : List Nat} (H : HasL intE h q (l.map fun (n : Nat) => (n : Int))) (hl : l.length ≤ 10) (hn : ∀ n ∈ l, n < M63) (hQ : ∀ q h', New byE h h' q (l.flatMap numB) → Q (.sl q) h') : AC Try.prog 60 [.sl q] h Q := ac60 (by
  unfold vc60
  have hlen := H.len
  rw [List.length_map] at hlen
  have bnd : ∀ i, ((l.take i).flatMap numB).length ≤ i * 9 := by
    intro i
    induction i with
    | zero => simp
    | succ i ih =>
      rw [List.take_add_one]
      cases hx : l[i]? with
      | none => simp at ih ⊢; omega
      | some x =>
        have := numB_len (hn x (List.mem_of_getElem? hx))
        rw [List.flatMap_append, List.length_append]
        simp only [Option.toList_some, List.flatMap_cons, List.flatMap_nil, List.append_nil]
        omega
  refine ⟨fun xs h6 => ∃ (q2 : Option SL) (i : Nat), xs = [.sl q2, .int .i64 i] ∧ i ≤ l.length ∧ New byE h h6 q2 ((l.take i).flatMap numB), fun xs _ => match xs with | [_, .int _ i] => (l.length - i).toNat | _ => 0, ⟨_, 0, rfl, by omega, by simpa using New.none⟩, ?_⟩
  rintro q2 i h6 ⟨q2', i', hx, hi, N⟩
  simp only [List.cons.injEq, AV.int.injEq, AV.sl.injEq, true_and, and_true] at hx
  obtain ⟨rfl, rfl⟩ := hx
  refine vif_mk (fun g => ?_) (fun g => ?_)
  · replace g := of_decide_eq_true g
    refine HasL.idx (E := intE) (H.mono N.1) (by omega) (by simp; omega) fun pp x hx hc => ?_
    have hx' : (l.map fun (n : Nat) => (n : Int))[i']? = some x := by simpa using hx
    rw [List.getElem?_map] at hx'
    cases hy : l[i']? with
    | none => rw [hy] at hx'; cases hx'
    | some y =>
      rw [hy] at hx'
      obtain rfl : ((y : Int)) = x := by simpa using hx'
      refine ⟨_, hc, t107 (hn y (List.mem_of_getElem? hy)) fun q11 h10 N1 => ⟨q11, _, rfl, ?_⟩⟩
      have hl1 := numB_len (hn y (List.mem_of_getElem? hy))
      have hl2 := bnd i'
      refine New.append (E := byE) (N.ext N1.1) N1.hasL (by omega) fun q13 h14 N2 => ?_
      rw [wrapK_i64 ⟨by omega, by omega⟩]
      refine ⟨trivial, ⟨q13, i' + 1, by simp, by omega, ?_⟩, by simp only; omega⟩
      rw [List.take_add_one, hy, List.flatMap_append]
      simpa using N2
  · replace g := of_decide_eq_false g
    have : i' = l.length := by omega
    subst this
    rw [List.take_length] at N
    exact hQ _ _ N)
end
end Go.Proofs.Ytceplmmmlindnaa

/- slices.Concat of bytes; the engine's Put of an edit. -/
namespace Go.Proofs.Ytceplmmmlindnaa
open Go.Ab
set_option linter.unusedVariables false
set_option linter.unusedSimpArgs false

theorem splice_bytes {C m : Bs} {o : Nat} : splice (byteAVs C) o (byteAVs m) = byteAVs (splice C o m) := by
  unfold splice byteAVs
  simp

section
variable {h : Heap} {Q : AV → Heap → Prop}
set_option maxRecDepth 20000 in
theorem t108 {n : Nat} (hn : n ≤ 100000) (hQ0 : n = 0 → Q (.sl none) h) (hQ1 : n ≠ 0 → Q (.sl (some ⟨h.length, 0, 0, n, 1⟩)) (h ++ [.cells (byteAVs (List.replicate n 0)) true])) : AC Try.prog 108 [.sl none, .int .i64 n] h Q := ac108 (by
  unfold vc108
  have e : wrapK .i64 ((n : Int) - 0) = n := by rw [wrapK_i64 ⟨by omega, by omega⟩]; omega
  rw [e]
  refine vif_mk (fun g => ?_) (fun _ => ?_)
  · replace g := of_decide_eq_true g
    omega
  refine vif_mk (fun g => ?_) (fun g => ?_)
  · replace g := of_decide_eq_true g
    refine ⟨rfl, rfl, rfl, by omega, by simp only [maxI]; omega, by omega, ?_⟩
    simp only [Int.toNat_natCast]
    rw [zeros_flat]
    refine ⟨by simp [byAV_len], ?_⟩
    simp only
    rw [if_neg (by omega)]
    refine ⟨by omega, by omega, ?_⟩
    refine ⟨.inr rfl, by omega, by simp, by simp, by simp, ?_⟩
    have := hQ1 (by omega)
    simpa using this
  · replace g := of_decide_eq_false g
    exact hQ0 (by omega))

/-- slices.Concat. -/
theorem t61 {q : Option SL} {qs : List (Option SL)} {ls : List Bs} (H : HasL slE h q qs) (hl : qs.length = ls.length) (hq : ∀ (i : Nat) (s : Option SL) (l : Bs), qs[i]? = some s → ls[i]? = some l → HasL byE h s l) (hT : ls.flatten.length ≤ 100000) (hn : ls.length ≤ 10)
    (hQ : ∀ q h', New byE h h' q ls.flatten → Q (.sl q) h') : AC Try.prog 61 [.sl q] h Q := ac61 (by
  unfold vc61
  have hlen := H.len
  have nxt : ∀ (i : Nat) (l : Bs), ls[i]? = some l → (ls.take (i + 1)).flatten = (ls.take i).flatten ++ l := fun i l hi => by
    rw [List.take_add_one, hi]; simp
  have pre : ∀ i, (ls.take i).flatten.length ≤ ls.flatten.length := fun i => by
    have : ls.flatten = (ls.take i).flatten ++ (ls.drop i).flatten := by rw [← List.flatten_append, List.take_append_drop]
    rw [this, List.length_append]; omega
  refine ⟨fun xs h6 => h6 = h ∧ ∃ i : Nat, xs = [.int .i64 ((ls.take i).flatten.length : Nat), .int .i64 i] ∧ i ≤ ls.length, fun xs _ => match xs with | [_, .int _ i] => (ls.length - i).toNat | _ => 0, ⟨rfl, 0, by simp, by omega⟩, ?_⟩
  rintro n i h6 ⟨rfl, i', hx, hi⟩
  simp only [List.cons.injEq, AV.int.injEq, true_and, and_true] at hx
  obtain ⟨rfl, rfl⟩ := hx
  refine vif_mk (fun g => ?_) (fun g => ?_)
  · replace g := of_decide_eq_true g
    refine HasL.idx (E := slE) H (by omega) (by omega) fun pp x hx hc => ⟨x, hc, ?_⟩
    have hx' : qs[i']? = some x := by simpa using hx
    have hli : ls[i']? = some (ls[i']'(by omega)) := List.getElem?_eq_getElem _
    have hxl := (hq i' x _ hx' hli).len
    have h1 := nxt i' _ hli
    have h2 := pre (i' + 1)
    have h3 : (ls.take (i' + 1)).flatten.length = (ls.take i').flatten.length + (ls[i']'(by omega)).length := by rw [h1, List.length_append]
    have e : wrapK .i64 ((((ls.take i').flatten.length : Nat) : Int) + (slLen x : Int)) = (((ls.take (i' + 1)).flatten.length : Nat) : Int) := by
      rw [wrapK_i64 ⟨by omega, by omega⟩, hxl, h3]; omega
    rw [e]
    refine vif_mk (fun g => ?_) (fun _ => ?_)
    · replace g := of_decide_eq_true g
      omega
    rw [wrapK_i64 ⟨by omega, by omega⟩]
    exact ⟨trivial, ⟨rfl, i' + 1, by simp, by omega⟩, by simp only; omega⟩
  · replace g := of_decide_eq_false g
    have : i' = ls.length := by omega
    subst this
    rw [List.take_length]
    have body : ∀ (q11 : Option SL) (h10 : Heap), Ext h6 h10 → (ls.flatten.length = 0 ∧ q11 = none ∨ ∃ a, h6.length ≤ a ∧ q11 = some ⟨a, 0, 0, ls.flatten.length, 1⟩ ∧ h10[a]? = some (.cells (byteAVs (List.replicate ls.flatten.length 0)) true)) →
        ∃ (I14 : List AV → Heap → Prop) (m15 : List AV → Heap → Nat), I14 [.sl q11, .int .i64 0] h10 ∧
        ∀ q12 : Option SL, ∀ n13 : Int, ∀ h16 : Heap, I14 [.sl q12, .int .i64 n13] h16 →
        vif (decide (n13 < (slLen q : Int)))
        (vIdx q n13 1 fun p17 =>
        ∃ q18 : Option SL, cellsAt h16 p17 1 = some [.sl q18] ∧
        PAppendS 1 1 q12 q18 h16 fun q19 h20 =>
        (True) ∧ I14 [.sl q19, .int .i64 (wrapK .i64 (n13 + 1))] h20 ∧ m15 [.sl q19, .int .i64 (wrapK .i64 (n13 + 1))] h20 < m15 [.sl q12, .int .i64 n13] h16)
        (Q (.sl q12) h16) := by
      intro q11 h10 hx10 hB
      refine ⟨fun xs h16 => ∃ (q12 : Option SL) (i : Nat), xs = [.sl q12, .int .i64 i] ∧ i ≤ ls.length ∧ Ext h6 h16 ∧ (ls.flatten.length = 0 ∧ q12 = none ∨ ∃ a C, h6.length ≤ a ∧ q12 = some ⟨a, 0, (ls.take i).flatten.length, ls.flatten.length, 1⟩ ∧ h16[a]? = some (.cells (byteAVs C) true) ∧ C.length = ls.flatten.length ∧ C.take (ls.take i).flatten.length = (ls.take i).flatten),
        fun xs _ => match xs with | [_, .int _ i] => (ls.length - i).toNat | _ => 0, ⟨q11, 0, rfl, by omega, hx10, ?_⟩, ?_⟩
      · rcases hB with hB | ⟨a, b1, b2, b3⟩
        · exact .inl hB
        · exact .inr ⟨a, _, b1, by simpa using b2, b3, by simp, by simp⟩
      · rintro q12 i h16 ⟨q12', i', hx, hi, hx16, hB⟩
        simp only [List.cons.injEq, AV.int.injEq, AV.sl.injEq, true_and, and_true] at hx
        obtain ⟨rfl, rfl⟩ := hx
        refine vif_mk (fun g => ?_) (fun g => ?_)
        · replace g := of_decide_eq_true g
          refine HasL.idx (E := slE) (H.mono hx16) (by omega) (by omega) fun pp x hx hc => ⟨x, hc, ?_⟩
          have hx' : qs[i']? = some x := by simpa using hx
          have hli : ls[i']? = some (ls[i']'(by omega)) := List.getElem?_eq_getElem _
          have hX := (hq i' x _ hx' hli).mono hx16
          have hxl := hX.len
          have h1 := nxt i' _ hli
          have h2 := pre (i' + 1)
          have h3 : (ls.take (i' + 1)).flatten.length = (ls.take i').flatten.length + (ls[i']'(by omega)).length := by rw [h1, List.length_append]
          generalize hml : ls[i']'(by omega) = m at *
          refine ⟨byE.all m, hX.cells, by rw [Enc.all_length, hxl]; rfl, ?_⟩
          rw [hxl, wrapK_i64 (n := (i' : Int) + 1) ⟨by omega, by omega⟩]
          rcases hB with ⟨hz, rfl⟩ | ⟨a, C, b1, rfl, b3, b4, b5⟩
          · simp only
            rw [if_pos (by omega)]
            exact ⟨trivial, ⟨none, i' + 1, by simp, by omega, hx16, .inl ⟨hz, rfl⟩⟩, by omega⟩
          · simp only
            rw [if_pos (by omega), b3]
            simp only [Nat.zero_add, Nat.mul_one]
            have hlt := lt_of_get b3
            rw [byE_all, splice_bytes]
            refine ⟨by rw [byAV_len, byAV_len]; omega, trivial, ⟨_, i' + 1, rfl, by omega, hx16.set b1, .inr ⟨a, splice C (ls.take i').flatten.length m, b1, by rw [h3], by rw [List.getElem?_set_self hlt], by rw [splice_length (by omega)]; exact b4, ?_⟩⟩, by omega⟩
            rw [h1, List.length_append]
            unfold splice
            rw [b5, List.append_assoc, List.take_append, List.take_of_length_le (by omega)]
            simp
        · replace g := of_decide_eq_false g
          have : i' = ls.length := by omega
          subst this
          refine hQ _ _ ⟨hx16, ?_, ?_⟩
          · rcases hB with ⟨hz, rfl⟩ | ⟨a, C, b1, rfl, b3, b4, b5⟩
            · exact .inl ⟨rfl, List.eq_nil_of_length_eq_zero hz⟩
            · rw [List.take_length] at b5 ⊢
              rw [← b4, List.take_length] at b5
              subst b5
              exact App.mk rfl (.inr rfl) (by rw [byE_all]; exact b3)
          · intro s hs
            rcases hB with ⟨hz, rfl⟩ | ⟨a, C, b1, rfl, b3, b4, b5⟩
            · cases hs
            · cases hs; exact b1
    refine t108 hT (fun h0 => ⟨_, rfl, body _ _ (.refl _) (.inl ⟨h0, rfl⟩)⟩) (fun h0 => ⟨_, rfl, body _ _ (.app _ _) (.inr ⟨h6.length, Nat.le_refl _, rfl, by simp⟩)⟩))
end
end Go.Proofs.Ytceplmmmlindnaa

/- The engine's Put of an edit. -/
namespace Go.Proofs.Ytceplmmmlindnaa
open Go.Ab
set_option linter.unusedVariables false
set_option linter.unusedSimpArgs false

section
variable {h : Heap} {Q : AV → Heap → Prop}
theorem EdR.ext {h h' : Heap} {e : EV} {d : ED} (R : EdR h e d) (K : Ext h h') : EdR h' e d := ⟨R.1, R.2.1, R.2.2.1, R.2.2.2.mono K⟩

/-- What a checked edit's numbers are. -/
theorem chk_nums {d : ED} (h : chk d = true) : (d.1 = ((d.1.toNat : Nat) : Int) ∧ d.1.toNat < M63) ∧ (d.2.1 = ((d.2.1.toNat : Nat) : Int) ∧ d.2.1.toNat < M63) ∧ (d.2.2.1 = ((d.2.2.1.toNat : Nat) : Int) ∧ d.2.2.1.toNat < M63) ∧ d.2.2.2.length ≤ 256 ∧ d.2.2.2.all refOk = true := by
  simp only [chk, atOk, Bool.and_eq_true, Bool.or_eq_true, decide_eq_true_eq, beq_iff_eq] at h
  obtain ⟨⟨⟨h1, ⟨⟨h2, h3⟩, h4⟩, h5⟩, h6⟩, h7⟩ := h
  simp only [M63]
  refine ⟨⟨by omega, by omega⟩, ⟨by omega, by omega⟩, ⟨by omega, by omega⟩, h6, h7⟩
theorem ref_nums {r : Rf} (h : refOk r = true) : r.1.length ≤ 24 ∧ (r.2.1 = ((r.2.1.toNat : Nat) : Int) ∧ r.2.1.toNat < M63) ∧ (r.2.2 = ((r.2.2.toNat : Nat) : Int) ∧ r.2.2.toNat < M63) := by
  simp only [refOk, Bool.and_eq_true, decide_eq_true_eq] at h
  simp only [M63]
  omega
theorem encD_take {d : ED} : encD d = (numB d.1.toNat ++ numB d.2.1.toNat ++ numB d.2.2.1.toNat ++ numB d.2.2.2.length) ++ encRs (d.2.2.2.take d.2.2.2.length) := by
  rw [List.take_length]; rfl
theorem bnd_enc {l : List Rf} (hl : l.length ≤ 256) (h : l.all refOk = true) (i : Nat) : (encRs (l.take i)).length ≤ 13056 := by
  have := encRs_len (all_take i h)
  have h2 : (l.take i).length ≤ l.length := List.length_take_le' _ _
  omega

/-- One ref behind some bytes, by Concat. -/
theorem cat3 {h0 : Heap} {q13 q24 q29 : Option SL} {a b c : Bs} {K : AV → Heap → Prop} {h28 : Heap} (A : New byE h0 h28 q13 a) (B : HasL byE h28 q24 b) (C : HasL byE h28 q29 c) (hT : a.length + b.length + c.length ≤ 100000)
    (hK : ∀ q34 h33, New byE h0 h33 q34 (a ++ b ++ c) → K (.sl q34) h33) : PNew [.sl q13, .sl q24, .sl q29] true h28 fun a30 h31 => AC Try.prog 61 [.sl (some ⟨a30, 0, 3, 3, 0⟩)] h31 K := by
  unfold PNew
  have hx : Ext h28 (h28 ++ [.cells [.sl q13, .sl q24, .sl q29] true]) := .app _ _
  refine t61 (qs := [q13, q24, q29]) (ls := [a, b, c]) (HasL.new (E := slE) (l := [q13, q24, q29]) rfl rfl) rfl ?_ (by simp; omega) (by simp) fun q' h' N => hK q' h' ?_
  · intro i s l hs hl
    match i with
    | 0 => simp at hs hl; subst hs hl; exact A.hasL.mono hx
    | 1 => simp at hs hl; subst hs hl; exact B.mono hx
    | 2 => simp at hs hl; subst hs hl; exact C.mono hx
    | n + 3 => simp at hs
  · have := N.of ((A.1.trans hx))
    simpa using this

set_option maxRecDepth 20000 in
/-- edit.Put. -/
theorem t14 {e : EV} {d : ED} (hR : EdR h e d) (hQ0 : chk d = false → Q (.tup [.sl none, .int .i64 140]) h) (hQ1 : ∀ q h', chk d = true → New byE h h' q (encD d) → Q (.tup [.sl q, .int .i64 0]) h') : AC Try.prog 14 [evV e] h Q := ac14 (by
  have hR0 := hR
  obtain ⟨r1, r2, r3, hL⟩ := hR
  have hlen := hL.len
  unfold vc14
  refine u18 (e := e) hR0 ⟨_, rfl, ?_⟩
  cases hc : chk d with
  | false =>
    rw [hc] at hQ0
    simp only [Bool.false_eq_true, if_false]
    exact hQ0 rfl
  | true =>
  rw [if_pos rfl]
  refine vif_mk (fun g => by simp at g) fun _ => ?_
  obtain ⟨⟨c1, c1'⟩, ⟨c2, c2'⟩, ⟨c3, c3'⟩, c4, c5⟩ := chk_nums hc
  show PNew _ true h _
  unfold PNew
  rw [r1, r2, r3, hlen]
  have hx1 : Ext h (h ++ [.cells [.int .i64 d.1, .int .i64 d.2.1, .int .i64 d.2.2.1, .int .i64 ((d.2.2.2.length : Nat) : Int)] true]) := .app _ _
  have len63 : d.2.2.2.length < M63 := by simp only [M63]; omega
  refine t60 (l := [d.1.toNat, d.2.1.toNat, d.2.2.1.toNat, d.2.2.2.length]) (HasL.new (E := intE) (l := [d.1.toNat, d.2.1.toNat, d.2.2.1.toNat, d.2.2.2.length].map fun (n : Nat) => (n : Int)) rfl ?_) (by simp) ?_ fun q12 h11 N0 => ⟨q12, rfl, ?_⟩
  · show [AV.int .i64 d.1, .int .i64 d.2.1, .int .i64 d.2.2.1, .int .i64 ((d.2.2.2.length : Nat) : Int)] = [AV.int .i64 ((d.1.toNat : Nat) : Int), .int .i64 ((d.2.1.toNat : Nat) : Int), .int .i64 ((d.2.2.1.toNat : Nat) : Int), .int .i64 ((d.2.2.2.length : Nat) : Int)]
    rw [← c1, ← c2, ← c3]
  · intro n hn
    simp only [List.mem_cons, List.not_mem_nil, or_false] at hn
    rcases hn with rfl | rfl | rfl | rfl <;> assumption
  have N0 := N0.of hx1
  generalize hhd : [d.1.toNat, d.2.1.toNat, d.2.2.1.toNat, d.2.2.2.length].flatMap numB = hd at N0
  have hhd' : hd = numB d.1.toNat ++ numB d.2.1.toNat ++ numB d.2.2.1.toNat ++ numB d.2.2.2.length := by rw [← hhd]; simp
  have hhl : hd.length ≤ 36 := by
    have h1 := numB_len c1'
    have h2 := numB_len c2'
    have h3 := numB_len c3'
    have h4 := numB_len len63
    rw [hhd']; simp only [List.length_append]; omega
  refine ⟨fun xs h6 => ∃ (q2 : Option SL) (i : Nat), xs = [.sl q2, .int .i64 i] ∧ i ≤ d.2.2.2.length ∧ New byE h h6 q2 (hd ++ encRs (d.2.2.2.take i)), fun xs _ => match xs with | [_, .int _ i] => (d.2.2.2.length - i).toNat | _ => 0, ⟨_, 0, rfl, by omega, by simpa [encRs] using N0⟩, ?_⟩
  rintro q2 i h17 ⟨q2', i', hx, hi, N⟩
  simp only [List.cons.injEq, AV.int.injEq, AV.sl.injEq, true_and, and_true] at hx
  obtain ⟨rfl, rfl⟩ := hx
  refine vif_mk (fun g => ?_) (fun g => ?_)
  · replace g := of_decide_eq_true g
    refine HasL.idx (E := refE) (hL.mono N.1) (by omega) (by omega) fun pp y hy hcy => ⟨y.1, y.2.1, y.2.2, hcy, ?_⟩
    have hy' : d.2.2.2[i']? = some y := by simpa using hy
    have hok : refOk y = true := by rw [List.all_eq_true] at c5; exact c5 y (List.mem_of_getElem? hy')
    obtain ⟨y1, ⟨y2, y2'⟩, ⟨y3, y3'⟩⟩ := ref_nums hok
    have bl := bnd_enc c4 c5 i'
    have rl := encR_len hok
    have hin : ∀ {h26 : Heap} {a : Nat}, h26[a]? = some (.cells [.int .i64 y.2.1, .int .i64 y.2.2] true) → HasL intE h26 (some ⟨a, 0, 2, 2, 0⟩) ([y.2.1.toNat, y.2.2.toNat].map fun (n : Nat) => (n : Int)) := by
      intro h26 a hb
      refine ⟨rfl, Nat.le_refl _, .inl rfl, ?_⟩
      have e : intE.all ([y.2.1.toNat, y.2.2.toNat].map fun (n : Nat) => (n : Int)) = [.int .i64 y.2.1, .int .i64 y.2.2] := by
        show [AV.int .i64 ((y.2.1.toNat : Nat) : Int), .int .i64 ((y.2.2.toNat : Nat) : Int)] = _
        rw [← y2, ← y3]
      rw [e, cellsAt_mk (p := ⟨a, 0⟩) hb (by simp [intE])]
      simp [intE]
    have hn2 : ∀ n ∈ [y.2.1.toNat, y.2.2.toNat], n < M63 := by
      intro n hn
      simp only [List.mem_cons, List.not_mem_nil, or_false] at hn
      rcases hn with rfl | rfl <;> assumption
    have el : ([y.2.1.toNat, y.2.2.toNat] : List Nat).flatMap numB = numB y.2.1.toNat ++ numB y.2.2.toNat := by simp
    have eT : (hd ++ encRs (d.2.2.2.take i')) ++ (numB y.1.length ++ y.1) ++ (numB y.2.1.toNat ++ numB y.2.2.toNat) = hd ++ encRs (d.2.2.2.take (i' + 1)) := by
      rw [encRs_take hy']; simp [encR]
    have hTot : (hd ++ encRs (d.2.2.2.take i')).length + (numB y.1.length ++ y.1).length + (numB y.2.1.toNat ++ numB y.2.2.toNat).length ≤ 100000 := by
      simp only [encR, List.length_append] at rl ⊢; omega
    have step : ∀ (q34 : Option SL) (h33 : Heap), New byE h h33 q34 ((hd ++ encRs (d.2.2.2.take i')) ++ (numB y.1.length ++ y.1) ++ (numB y.2.1.toNat ++ numB y.2.2.toNat)) → _ := fun q34 h33 N3 =>
      (⟨⟨rfl, trivial⟩, ⟨q34, i' + 1, by rw [wrapK_i64 ⟨by omega, by omega⟩]; simp, by omega, by rw [← eT]; exact N3⟩, by rw [wrapK_i64 ⟨by omega, by omega⟩]; omega⟩ :
        ((some [.int .i64 d.1, .int .i64 d.2.1, .int .i64 d.2.2.1, .sl e.2.2.2] : Option (List AV)) = some [.int .i64 d.1, .int .i64 d.2.1, .int .i64 d.2.2.1, .sl e.2.2.2] ∧ True) ∧ (∃ (q2 : Option SL) (i : Nat), [AV.sl q34, .int .i64 (wrapK .i64 ((i' : Int) + 1))] = [.sl q2, .int .i64 i] ∧ i ≤ d.2.2.2.length ∧ New byE h h33 q2 (hd ++ encRs (d.2.2.2.take i))) ∧ ((d.2.2.2.length : Int) - wrapK .i64 ((i' : Int) + 1)).toNat < ((d.2.2.2.length : Int) - (i' : Int)).toNat)
    refine ⟨?_, ?_⟩
    · refine t62 (s := y.1) (by omega) fun q24 h23 N1 => ⟨q24, rfl, rfl, rfl, rfl, ?_⟩
      have hx26 : Ext h23 (h23 ++ [.cells [.int .i64 y.2.1, .int .i64 y.2.2] true]) := .app _ _
      refine t60 (hin (by simp)) (by simp) hn2 fun q29 h28 N2 => ⟨q29, rfl, ?_⟩
      rw [el] at N2
      have hx28 := hx26.trans N2.1
      exact cat3 (N.ext (N1.1.trans hx28)) (N1.hasL.mono hx28) N2.hasL hTot fun q34 h33 N3 => ⟨q34, rfl, step q34 h33 N3⟩
    · have hx36 : Ext h17 (h17 ++ [.cells [.int .i64 y.2.1, .int .i64 y.2.2] true]) := .app _ _
      refine ⟨rfl, t62 (s := y.1) (by omega) fun q24 h23 N1 => ⟨q24, rfl, rfl, rfl, ?_⟩⟩
      refine t60 (hin (N1.1 _ _ (by simp))) (by simp) hn2 fun q29 h28 N2 => ⟨q29, rfl, ?_⟩
      rw [el] at N2
      exact cat3 (N.ext ((hx36.trans N1.1).trans N2.1)) (N1.hasL.mono N2.1) N2.hasL hTot fun q34 h33 N3 => ⟨q34, rfl, step q34 h33 N3⟩
  · replace g := of_decide_eq_false g
    have : i' = d.2.2.2.length := by omega
    subst this
    refine hQ1 _ _ hc ?_
    rw [encD_take, ← hhd']
    exact N)
end
end Go.Proofs.Ytceplmmmlindnaa

/- The document's Put. -/
namespace Go.Proofs.Ytceplmmmlindnaa
open Go.Ab
set_option linter.unusedVariables false
set_option linter.unusedSimpArgs false

section
variable {h : Heap} {Q : AV → Heap → Prop}
set_option maxRecDepth 20000 in
/-- Fix. -/
theorem t115 {n k : Nat} (hn : n < M63) (hk : 1 ≤ k ∧ k ≤ 8) (hQ : ∀ q h', New byE h h' q (beL n k) → Q (.tup [.sl q, .bool (decide (n < 256 ^ k))]) h') : AC Try.prog 115 [.int .i64 n, .int .i64 k] h Q := ac115 (by
  simp only [M63] at hn
  unfold vc115
  refine vif_mk (fun g => ?_) (fun _ => ?_)
  · replace g := of_decide_eq_true g
    omega
  refine vif_mk (fun g => ?_) (fun _ => ?_)
  · replace g := of_decide_eq_true g
    omega
  refine vif_mk (fun g => ?_) (fun _ => ?_)
  · replace g := of_decide_eq_true g
    omega
  refine ⟨by omega, by omega, by simp; omega, by simp only [maxI]; omega, ?_⟩
  simp only [Int.toNat_natCast]
  rw [zeros_flat, wrapK_i64 (n := (k : Int) - 1) ⟨by omega, by omega⟩]
  have fin : ∀ (cur : Bs) (b : Bool), cur.length = k → (∀ j, j < k → cur[j]? = (beL n k)[j]?) → b = decide (n < 256 ^ k) → Q (.tup [.sl (some ⟨h.length, 0, k, k, 0⟩), .bool b]) (h ++ [.cells (byteAVs cur) true]) := by
    intro cur b hl hc hb
    have : cur = beL n k := by
      refine List.ext_getElem? fun j => ?_
      rcases Nat.lt_or_ge j k with hj | hj
      · exact hc j hj
      · rw [List.getElem?_eq_none (by omega), List.getElem?_eq_none (by rw [beL_len]; omega)]
    subst this hb
    exact hQ _ _ (New.mk1 (E := byE) (beL_len _ _).symm byE_all.symm)
  -- i bytes are to be written still
  refine ⟨fun xs h8 => ∃ (i : Nat) (cur : Bs), xs = [.int .i64 ((n / 256 ^ (k - i) : Nat) : Int), .int .i64 ((i : Int) - 1)] ∧ i ≤ k ∧ h8 = h ++ [.cells (byteAVs cur) true] ∧ cur.length = k ∧ ∀ j, i ≤ j → j < k → cur[j]? = (beL n k)[j]?, fun xs _ => match xs with | [_, .int _ i] => (i + 1).toNat | _ => 0, ⟨k, _, by simp, by omega, rfl, by simp, fun j hj => by omega⟩, ?_⟩
  rintro n5 n6 h8 ⟨i', cur, hx, hi, rfl, hl, hc⟩
  simp only [List.cons.injEq, AV.int.injEq, true_and, and_true] at hx
  obtain ⟨rfl, rfl⟩ := hx
  refine vif_mk (fun h1 => ?_) (fun h1 => ?_)
  · replace h1 := of_decide_eq_true h1
    obtain ⟨i, rfl⟩ : ∃ i, i' = i + 1 := ⟨i' - 1, by omega⟩
    have e0 : (((i + 1 : Nat) : Int) - 1) = (i : Int) := by omega
    rw [e0]
    have hv : n / 256 ^ (k - (i + 1)) ≤ n := Nat.div_le_self _ _
    have e1 : (((n / 256 ^ (k - (i + 1)) : Nat) : Int).tmod 256) = ((n / 256 ^ (k - 1 - i) % 256 : Nat) : Int) := by
      rw [tmod_pos (Int.natCast_nonneg _)]
      have : k - (i + 1) = k - 1 - i := by omega
      rw [this]; generalize n / 256 ^ (k - 1 - i) = v; omega
    have e2 : (((n / 256 ^ (k - (i + 1)) : Nat) : Int).tdiv 256) = ((n / 256 ^ (k - i) : Nat) : Int) := by
      rw [tdiv_pos (Int.natCast_nonneg _)]
      have : 256 ^ (k - i) = 256 ^ (k - (i + 1)) * 256 := by rw [← Nat.pow_succ]; congr 1; omega
      rw [this, ← Nat.div_div_eq_div_mul]; generalize n / 256 ^ (k - (i + 1)) = v; omega
    have hv2 : n / 256 ^ (k - i) ≤ n := Nat.div_le_self _ _
    have e3 : (wrapK .u8 ((n / 256 ^ (k - 1 - i) % 256 : Nat) : Int)) = ((UInt8.ofNat (n / 256 ^ (k - 1 - i) % 256)).toNat : Int) := by
      rw [u8c]; simp
    rw [e1, e2, e3, wrapK_i64 (n := ((n / 256 ^ (k - i) : Nat) : Int)) ⟨by generalize n / 256 ^ (k - i) = v at *; omega, by generalize n / 256 ^ (k - i) = v at *; omega⟩, wrapK_i64 (n := (i : Int) - 1) ⟨by omega, by omega⟩]
    refine ⟨by omega, by simp only; omega, ?_⟩
    unfold PStore
    simp only [Int.toNat_natCast, Nat.mul_one, Nat.zero_add]
    rw [List.getElem?_append_right (by omega)]
    simp only [Nat.sub_self, List.getElem?_cons_zero]
    refine ⟨by rw [byAV_len, hl]; simp; omega, trivial, ⟨i, cur.set i (UInt8.ofNat (n / 256 ^ (k - 1 - i) % 256)), rfl, by omega, ?_, by simp [hl], fun j hj hj2 => ?_⟩, by omega⟩
    · rw [splice_set (by omega)]
      simp
    · rw [List.getElem?_set]
      split
      · rename_i he; subst he
        rw [if_pos (by omega), beL_get k n i (by omega)]
      · exact hc j (by omega) hj2
  · replace h1 := of_decide_eq_false h1
    have : i' = 0 := by omega
    subst this
    refine fin cur _ hl (fun j hj => hc j (by omega) hj) ?_
    rw [Nat.sub_zero]
    have : (((n / 256 ^ k : Nat) : Int) == 0) = decide (n / 256 ^ k = 0) := by
      generalize n / 256 ^ k = v
      rw [Bool.eq_iff_iff]; simp
    rw [this]
    congr 1
    rw [Nat.div_eq_zero_iff_lt (Nat.pow_pos (by omega))])

set_option maxRecDepth 20000 in
/-- The document's Put of a number. -/
theorem t74 {n : Nat} (hn : n < M63) (hQ : ∀ q h', New byE h h' q (numB n) → Q (.sl q) h') : AC Try.prog 74 [.int .i64 n] h Q := ac74 (by
  have hn0 := hn
  simp only [M63] at hn
  unfold vc74 PNew
  refine vif_mk (fun g => ?_) (fun g => ?_)
  · replace g := of_decide_eq_true g
    exact hQ _ _ (New.mk1 (E := byE) (by rw [numB_lo (by omega)]; rfl) (by rw [numB_lo (by omega), by1 (by omega)]))
  refine vif_mk (fun g2 => ?_) (fun g2 => ?_)
  · replace g := of_decide_eq_false g
    replace g2 := of_decide_eq_true g2
    refine hQ _ _ (New.mk1 (E := byE) (by rw [numB_mid (by omega) (by omega)]; rfl) ?_)
    rw [wrapK_i64 (n := (n : Int) - 240) ⟨by omega, by omega⟩, tmod_pos (by omega), tdiv_pos (by omega)]
    have e1 : ((n : Int) - 240) / 256 = (((n - 240) / 256 : Nat) : Int) := by omega
    have e2 : wrapK .u8 (((n : Int) - 240) % 256) = wrapK .u8 (((n - 240 : Nat) : Int)) := by rw [wrapK_u8, wrapK_u8]; omega
    rw [e1, e2, wrapK_i64 (n := (((n - 240) / 256 : Nat) : Int)) ⟨by omega, by omega⟩, wrapK_i64 ⟨by omega, by omega⟩]
    exact byMid (by omega) (by omega) (by omega) rfl
  · replace g := of_decide_eq_false g
    replace g2 := of_decide_eq_false g2
    have hw := wid_le (n := n) hn0
    have fin : ∀ (k : Nat) (q : Option SL) (hA hB : Heap), k = wid n → Ext h hA → New byE hA hB q (beL n k) → ∀ b : Nat, b = 246 + k → PAppendS 1 1 (some ⟨hB.length, 0, 1, 1, 0⟩) q (hB ++ [.cells [.int .u8 (wrapK .u8 (b : Int))] true]) fun q16 h17 => Q (.sl q16) h17 := by
      intro k q hA hB hk hxA N b hb
      subst hk hb
      have N1 : New byE h (hB ++ [.cells [.int .u8 (wrapK .u8 ((246 + wid n : Nat) : Int))] true]) (some ⟨hB.length, 0, 1, 1, 0⟩) [UInt8.ofNat (246 + wid n)] := (New.mk1 (E := byE) rfl (by1 (by omega))).of (hxA.trans N.1)
      refine New.append (E := byE) N1 (N.hasL.mono (Ext.app _ _)) (by simp [beL_len]; omega) fun q14 h15 N2 => hQ _ _ ?_
      rw [numB_hi (by omega)]
      exact N2
    refine ⟨fun xs h6 => ∃ i : Nat, xs = [.int .i64 i] ∧ 2 ≤ i ∧ i ≤ 8 ∧ Ext h h6 ∧ i ≤ wid n, fun xs _ => match xs with | [.int _ i] => (8 - i).toNat | _ => 0, ⟨2, rfl, by omega, by omega, .refl _, ?_⟩, ?_⟩
    · rcases Nat.lt_or_ge (wid n) 2 with h | h
      · have := (wid_lt 1 n (by omega)).1 (by omega)
        simp at this; omega
      · exact h
    rintro i h9 ⟨i', hx, hi, hi8, hx9, hw2⟩
    simp only [List.cons.injEq, AV.int.injEq, true_and, and_true] at hx
    subst hx
    refine vif_mk (fun h1 => ?_) (fun h1 => ?_)
    · replace h1 := of_decide_eq_true h1
      refine t115 hn0 ⟨by omega, by omega⟩ fun q12 h11 N => ⟨q12, _, rfl, ?_⟩
      have hiff := wid_lt i' n (by omega)
      refine vif_mk (fun h2 => ?_) (fun h2 => ?_)
      · replace h2 := of_decide_eq_true h2
        rw [wrapK_i64 (n := 246 + (i' : Int)) ⟨by omega, by omega⟩]
        have e : (246 + (i' : Int)) = ((246 + i' : Nat) : Int) := by omega
        rw [e]
        exact fin i' q12 h9 h11 (by have := hiff.2 h2; omega) hx9 N _ rfl
      · replace h2 := of_decide_eq_false h2
        rw [wrapK_i64 ⟨by omega, by omega⟩]
        refine ⟨trivial, ⟨i' + 1, by simp, by omega, by omega, hx9.trans N.1, ?_⟩, by simp only; omega⟩
        have : ¬ wid n ≤ i' := fun hh => h2 (hiff.1 hh)
        omega
    · replace h1 := of_decide_eq_false h1
      have : i' = 8 := by omega
      subst this
      refine t115 (k := 8) hn0 ⟨by omega, by omega⟩ fun q12 h11 N => ⟨q12, _, rfl, ?_⟩
      have := fin 8 q12 h9 h11 (by omega) hx9 N 254 rfl
      exact this)

theorem t75 {a b : Nat} (ha : a < M63) (hb : b < M63) (hQ : ∀ q h', New byE h h' q (numB a ++ numB b) → Q (.sl q) h') : AC Try.prog 75 [.agg [.int .i64 a, .int .i64 b]] h Q := ac75 (by
  unfold vc75
  refine t74 ha fun q5 h4 N => ⟨q5, rfl, rfl, ?_⟩
  refine t74 hb fun q8 h7 N2 => ⟨q8, rfl, ?_⟩
  have h1 := numB_len ha
  have h2 := numB_len hb
  exact New.append (E := byE) (N.ext N2.1) N2.hasL (by omega) fun q9 h10 N3 => hQ _ _ N3)

theorem t76 {s : Bs} (hs : s.length ≤ 100000) (hQ : ∀ q h', New byE h h' q (numB s.length ++ s) → Q (.sl q) h') : AC Try.prog 76 [.str s] h Q := ac76 (by
  unfold vc76
  refine t74 (by simp only [M63]; omega) fun q4 h3 N => ⟨q4, rfl, ?_⟩
  have hl := numB_len (n := s.length) (by simp only [M63]; omega)
  rw [← byE_all]
  exact New.append0 (E := byE) N (by omega) fun q' h2 N2 => hQ _ _ N2)

set_option maxRecDepth 20000 in
/-- The document's Put of an edit. -/
theorem t20 {e : EV} {d : ED} (hR : EdR h e d) (hc : chk d = true) (hQ : ∀ q h', New byE h h' q (encD d) → Q (.sl q) h') : AC Try.prog 20 [evV e] h Q := ac20 (by
  obtain ⟨r1, r2, r3, hL⟩ := hR
  have hlen := hL.len
  obtain ⟨⟨c1, c1'⟩, ⟨c2, c2'⟩, ⟨c3, c3'⟩, c4, c5⟩ := chk_nums hc
  have len63 : d.2.2.2.length < M63 := by simp only [M63]; omega
  unfold vc20
  rw [r1, r2, r3, hlen, c1, c2, c3]
  have b1 := numB_len c1'
  have b2 := numB_len c2'
  have b3 := numB_len c3'
  have b4 := numB_len len63
  refine t74 c1' fun q7 h6 N1 => ⟨q7, rfl, rfl, ?_⟩
  refine t75 c2' c3' fun q10 h9 N2 => ⟨q10, rfl, ?_⟩
  refine New.append (E := byE) (N1.ext N2.1) N2.hasL (by simp only [List.length_append]; omega) fun q11 h12 N3 => ?_
  refine t74 len63 fun q15 h14 N4 => ⟨q15, rfl, ?_⟩
  refine New.append (E := byE) (N3.ext N4.1) N4.hasL (by simp only [List.length_append]; omega) fun q16 h17 N5 => ?_
  generalize hhd : numB d.1.toNat ++ (numB d.2.1.toNat ++ numB d.2.2.1.toNat) ++ numB d.2.2.2.length = hd at N5
  have hhd' : hd = numB d.1.toNat ++ numB d.2.1.toNat ++ numB d.2.2.1.toNat ++ numB d.2.2.2.length := by rw [← hhd]; simp
  have hhl : hd.length ≤ 36 := by rw [hhd']; simp only [List.length_append]; omega
  refine ⟨fun xs h6 => ∃ (q2 : Option SL) (i : Nat), xs = [.sl q2, .int .i64 i] ∧ i ≤ d.2.2.2.length ∧ New byE h h6 q2 (hd ++ encRs (d.2.2.2.take i)), fun xs _ => match xs with | [_, .int _ i] => (d.2.2.2.length - i).toNat | _ => 0, ⟨_, 0, rfl, by omega, by simpa [encRs] using N5⟩, ?_⟩
  rintro q2 i h22 ⟨q2', i', hx, hi, N⟩
  simp only [List.cons.injEq, AV.int.injEq, AV.sl.injEq, true_and, and_true] at hx
  obtain ⟨rfl, rfl⟩ := hx
  refine vif_mk (fun g => ?_) (fun g => ?_)
  · replace g := of_decide_eq_true g
    have atR : ∀ {h' : Heap} {K : PA → Prop}, Ext h h' → (∀ pp y, d.2.2.2[i']? = some y → cellsAt h' pp 3 = some (refE.f y) → K pp) → vIdx e.2.2.2 (i' : Int) 3 K := by
      intro h' K hx hK
      refine HasL.idx (E := refE) (hL.mono hx) (by omega) (by omega) fun pp y hy hcy => hK pp y (by simpa using hy) hcy
    refine atR N.1 fun pp y hy' hcy => ⟨y.1, by have := cellsAt_sub (k := 0) (m := 1) hcy (by omega); simpa [refE] using this, ?_⟩
    have hok : refOk y = true := by rw [List.all_eq_true] at c5; exact c5 y (List.mem_of_getElem? hy')
    obtain ⟨y1, ⟨y2, y2'⟩, ⟨y3, y3'⟩⟩ := ref_nums hok
    have bl := bnd_enc c4 c5 i'
    have d1 := numB_len (n := y.1.length) (by simp only [M63]; omega)
    have d2 := numB_len y2'
    have d3 := numB_len y3'
    refine t76 (s := y.1) (by omega) fun q27 h26 M1 => ⟨q27, rfl, ?_⟩
    refine New.append (E := byE) (N.ext M1.1) M1.hasL (by simp only [List.length_append]; omega) fun q28 h29 O1 => ?_
    refine atR O1.1 fun pp2 z hz hcz => ?_
    rw [hy'] at hz; cases hz
    refine ⟨y.2.1, by have := cellsAt_sub (k := 1) (m := 1) hcz (by omega); simpa [refE] using this, ?_⟩
    rw [y2]
    refine t74 y2' fun q34 h33 M2 => ⟨q34, rfl, ?_⟩
    refine New.append (E := byE) (O1.ext M2.1) M2.hasL (by simp only [List.length_append]; omega) fun q35 h36 O2 => ?_
    refine atR O2.1 fun pp3 z hz hcz => ?_
    rw [hy'] at hz; cases hz
    refine ⟨y.2.2, by have := cellsAt_sub (k := 2) (m := 1) hcz (by omega); simpa [refE] using this, ?_⟩
    rw [y3]
    refine t74 y3' fun q41 h40 M3 => ⟨q41, rfl, ?_⟩
    refine New.append (E := byE) (O2.ext M3.1) M3.hasL (by simp only [List.length_append]; omega) fun q42 h43 O3 => ?_
    rw [wrapK_i64 ⟨by omega, by omega⟩]
    refine ⟨⟨rfl, trivial⟩, ⟨q42, i' + 1, by simp, by omega, ?_⟩, by simp only; omega⟩
    rw [encRs_take hy']
    simpa [encR] using O3
  · replace g := of_decide_eq_false g
    have : i' = d.2.2.2.length := by omega
    subst this
    refine hQ _ _ ?_
    rw [encD_take, ← hhd']
    exact N)
end
end Go.Proofs.Ytceplmmmlindnaa
