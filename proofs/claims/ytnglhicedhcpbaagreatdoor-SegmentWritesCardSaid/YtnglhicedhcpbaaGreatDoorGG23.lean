/- The disk: Sync, Rename. -/
import Derived.Test.YtnglhicedhcpbaaGreatDoorGG16
import Derived.Test.YtnglhicedhcpbaaGreatDoorGG19
import Derived.Test.YtnglhicedhcpbaaGreatDoorGG22
namespace Go.Proofs.YtnglhicedhcpbaaGreatDoor
open Go.Ab
open Go.Dsk hiding Bs
set_option linter.unusedVariables false
set_option linter.unusedSimpArgs false
section
variable {h h' : Heap} {ow ow' : Roles} {p m : Nat} {qp : Option SL} {es : Ents} {cl : Nat} {D : DS} {f f' : FA} {Q : AV → Heap → Prop}

set_option maxRecDepth 20000 in
theorem d97 (R : DiskR h ow p D) {s : Bs} (hpl : D.pends.length ≤ 1000000) (hQ : ∀ h' ow', DiskR h' ow' p (D.sync s).2 → DStep ow h ow' h' → Q (.int .i64 (D.sync s).1) h') : AC Tryz.prog 97 [.ptr (some ⟨p, 0⟩), .str s] h Q := ac97 (by
  unfold vc97
  unfold DS.sync at hQ
  refine d130 R (fun ho => ⟨_, _, rfl, ?_⟩) (fun ho hn => ⟨_, _, rfl, ?_⟩) fun f ho hfd hf hfn => ⟨_, _, rfl, ?_⟩
  · rw [ho] at hQ; exact hQ h ow R (.refl _ _)
  · rw [ho, hn] at hQ; exact hQ h ow R (.refl _ _)
  rw [ho, hfd] at hQ
  simp only [Bool.false_eq_true, if_false] at hQ
  show AC Tryz.prog 172 _ _ _
  refine d172 R fun h8 R8 S8 => ⟨_, rfl, vif_mk (fun g => ?_) (fun g => ?_)⟩
  · have g : ¬ D.deed.1 = 0 := by simpa using g
    rw [if_neg g] at hQ
    exact hQ h8 ow R8 S8
  have g : D.deed.1 = 0 := by simpa using g
  rw [if_pos g] at hQ
  obtain ⟨m, qp, es, cl, C⟩ := R8
  have hf8 : f ∈ D.deed.2.files := by rw [deed_files]; exact hf
  have hblk : (D.files.map (·.b)).Nodup := by rw [← deed_files]; exact C.blocks
  refine ⟨qp, C.at (k := 1) rfl, ?_⟩
  have hlen := C.pnd.hasL.len
  rw [deed_pends] at hlen
  let St : Heap → Roles → Nat → Prop := fun h9 ow9 j => DiskC h9 ow9 p m qp es cl { D.deed.2 with files := upF D.files (keepAll f (D.pends.take j)) } ∧ DStep ow h8 ow9 h9
  have e0 : upF D.files (keepAll f (D.pends.take 0)) = D.deed.2.files := by rw [deed_files]; exact upF_self hblk hf
  refine ⟨fun xs h15 => ∃ (i : Nat) (ow15 : Roles), xs = [.int .i64 i] ∧ i ≤ D.pends.length ∧ St h15 ow15 i, fun xs _ => match xs with | [.int _ i] => (D.pends.length - i).toNat | _ => 0, ⟨0, ow, rfl, by omega, by
    show DiskC h8 ow p m qp es cl { D.deed.2 with files := upF D.files (keepAll f (D.pends.take 0)) }
    rw [e0]; exact C, .refl _ _⟩, ?_⟩
  rintro n12 h15 ⟨i, ow15, hx, hi, C15, S15⟩
  simp only [List.cons.injEq, AV.int.injEq, true_and, and_true] at hx
  subst hx
  obtain ⟨kb, kn, know⟩ := keepAll_b (f := f) (D.pends.take i)
  refine vif_mk (fun g1 => ?_) (fun g1 => ?_)
  · replace g1 := of_decide_eq_true g1
    have hpn : D.deed.2.pends = D.pends := deed_pends
    have A15 : AppJ pendE h15 qp D.pends := by have := C15.pnd; rwa [show ({ D.deed.2 with files := upF D.files (keepAll f (D.pends.take i)) } : DS).pends = D.pends from hpn] at this
    refine AppJ.idx (E := pendE) A15 (by omega) (by omega) fun pp x hx0 hc hpp => ⟨some ⟨x.1, 0⟩, ((x.2.1 : Nat) : Int), exC_mk (b := secB x.2.2) ⟨hc, ?_⟩⟩
    have hx' : D.pends[i]? = some x := by simpa using hx0
    have ht : D.pends.take (i + 1) = D.pends.take i ++ [x] := by rw [List.take_add_one, hx']; rfl
    obtain ⟨g2, hg2, hg2b, hg2l⟩ := C15.pfile x (by rw [show ({ D.deed.2 with files := upF D.files (keepAll f (D.pends.take i)) } : DS).pends = D.pends from hpn]; exact List.mem_of_getElem? hx')
    have fcell : ∀ g ∈ upF D.files (keepAll f (D.pends.take i)), ∃ c, h15[g.b]? = some (.cells c true) := by
      intro g hg
      obtain ⟨_, qn, qs, c, _⟩ := C15.file g hg
      exact ⟨_, c⟩
    have hfin : keepAll f (D.pends.take i) ∈ upF D.files (keepAll f (D.pends.take i)) := upF_in hf kb
    refine file_eq (by rw [← hg2b]; exact fcell g2 hg2) (by rw [← kb]; exact fcell _ hfin) ?_
    rw [wrapK_i64 ⟨by omega, by omega⟩]
    refine vif_mk (fun g3 => ?_) (fun g3 => ?_)
    · replace g3 := of_decide_eq_true g3
      have hgl : x.2.1 < (keepAll f (D.pends.take i)).now.length := by
        have := uniq_b C15.blocks hg2 hfin (by rw [hg2b, g3, kb])
        rw [← this]; exact hg2l
      rw [g3]
      rw [← kb]
      refine d113 C15 hfin hgl fun h22 ow22 C22 S22 => ⟨rfl, trivial, ⟨i + 1, ow22, by simp, by omega, ?_, S15.trans S22⟩, by simp only; omega⟩
      show DiskC h22 ow22 p m qp es cl { D.deed.2 with files := upF D.files (keepAll f (D.pends.take (i + 1))) }
      rw [ht, keepAll_snoc, if_pos g3]
      have e1 : upF (upF D.files (keepAll f (D.pends.take i))) (keepF (keepAll f (D.pends.take i)) x.2.1 x.2.2 64) = upF D.files (keepF (keepAll f (D.pends.take i)) x.2.1 x.2.2 64) := upF_upF (by rw [keepF_b.1])
      rw [← e1]
      exact C22
    · replace g3 := of_decide_eq_false g3
      refine ⟨trivial, ⟨i + 1, ow15, by simp, by omega, ?_, S15⟩, by simp only; omega⟩
      show DiskC h15 ow15 p m qp es cl { D.deed.2 with files := upF D.files (keepAll f (D.pends.take (i + 1))) }
      rw [ht, keepAll_snoc, if_neg g3]
      exact C15
  · replace g1 := of_decide_eq_false g1
    have : i = D.pends.length := by omega
    subst this
    rw [List.take_length] at C15 kb
    have hfin : keepAll f D.pends ∈ upF D.files (keepAll f D.pends) := upF_in hf kb
    rw [← kb]
    refine d174 C15 hfin (by show D.deed.2.pends.length ≤ _; rw [deed_pends]; exact hpl) fun q' h24 ow24 C24 S24 => ⟨rfl, ?_⟩
    have : (DS.forget { D.deed.2 with files := upF D.files (keepAll f D.pends) } (keepAll f D.pends).b) = { D.deed.2 with files := upF D.files (keepAll f D.pends), pends := D.pends.filter (notB f.b) } := by
      unfold DS.forget; simp only [deed_pends, kb]
    rw [this] at C24
    exact hQ _ _ ⟨_, _, _, _, C24⟩ (S8.trans (S15.trans S24)))

end
end Go.Proofs.YtnglhicedhcpbaaGreatDoor

/- The disk: Rename, Crash. -/
namespace Go.Proofs.YtnglhicedhcpbaaGreatDoor
open Go.Ab
open Go.Dsk hiding Bs
set_option linter.unusedVariables false
set_option linter.unusedSimpArgs false
section
variable {h h' : Heap} {ow ow' : Roles} {p m : Nat} {qp : Option SL} {es : Ents} {cl : Nat} {D : DS} {f f' : FA} {Q : AV → Heap → Prop}

end
end Go.Proofs.YtnglhicedhcpbaaGreatDoor

/- The disk: Crash. -/
namespace Go.Proofs.YtnglhicedhcpbaaGreatDoor
open Go.Ab
open Go.Dsk hiding Bs
set_option linter.unusedVariables false
set_option linter.unusedSimpArgs false
section
variable {h h' : Heap} {ow ow' : Roles} {p m : Nat} {qp : Option SL} {es : Ents} {cl : Nat} {D : DS} {f f' : FA} {Q : AV → Heap → Prop}

end
end Go.Proofs.YtnglhicedhcpbaaGreatDoor

/- A crash. -/
namespace Go.Proofs.YtnglhicedhcpbaaGreatDoor
open Go.Ab
open Go.Dsk hiding Bs
set_option linter.unusedVariables false
set_option linter.unusedSimpArgs false
section
variable {h h' : Heap} {ow ow' : Roles} {p m : Nat} {qp : Option SL} {es : Ents} {cl : Nat} {D : DS} {f f' : FA} {Q : AV → Heap → Prop}

/-- What was there before the disk is there. -/
structure Base (h0 : Heap) (ow : Roles) (h : Heap) : Prop where
  new : ∀ b, ow b ≠ none → h0.length ≤ b
  ext : Ext h0 h
theorem Base.step {h0 : Heap} (B : Base h0 ow h) (S : DStep ow h ow' h') : Base h0 ow' h' := by
  refine ⟨fun b hb => ?_, fun b X hX => ?_⟩
  · rcases S.own b hb with h1 | h1
    · exact B.new b h1
    · have := B.ext.len; omega
  · exact S.keeps b X (fun hb => by have := B.new b hb; have := lt_of_get hX; omega) (B.ext b X hX)

end

section
variable {h : Heap} {Q : AV → Heap → Prop}
end
end Go.Proofs.YtnglhicedhcpbaaGreatDoor

/- The document's disk, over the abstract heap. -/
namespace Go.Proofs.YtnglhicedhcpbaaGreatDoor
open Go.Ab
open Go.Dsk hiding Bs
set_option linter.unusedVariables false
set_option linter.unusedSimpArgs false
def plE : Enc Nat := ⟨1, fun b => [.ptr (some ⟨b, 0⟩)], fun _ => rfl, by omega, fun _ => rfl⟩
/-- A pending write: a file, a number, bytes. -/
def pdE : Enc (Nat × Nat × Option SL) := ⟨3, fun x => [.ptr (some ⟨x.1, 0⟩), .int .i64 (x.2.1 : Nat), .sl x.2.2], fun _ => rfl, by omega, fun _ => rfl⟩
/-- Sectors, each a slice that nobody writes. -/
def SecL (h : Heap) (ow : Roles) (q : Option SL) (l : List Bs) : Prop :=
  ∃ qs : List (Option SL), Apd slE h q qs ∧ qs.length = l.length ∧ ∀ (k : Nat) (t : Option SL) (x : Bs), qs[k]? = some t → l[k]? = some x → HasL byE h t x ∧ x.length = 64 ∧ ∀ s, t = some s → ow s.b = none
structure RFile (h : Heap) (ow : Roles) (f : FA) : Prop where
  role : ow f.b = some .file
  cells : ∃ qn qs, h[f.b]? = some (.cells [.str f.name, .sl qn, .sl qs] true) ∧ SecL h ow qn f.now ∧ SecL h ow qs f.safe ∧ (∀ s, qn = some s → ow s.b = some (.now f.b)) ∧ (∀ s, qs = some s → ow s.b = some (.safe f.b))
structure RDC (h : Heap) (ow : Roles) (p : Nat) (qL qP : Option SL) (D : DS) : Prop where
  live : ∀ b, ow b ≠ none → b < h.length
  pr : ow p = some .disk
  pb : h[p]? = some (.cells [.sl qL, .sl qP, .int .i64 D.limit, .int .i64 D.left, .bool D.off] true)
  lst : HasL plE h qL (D.files.map (·.b))
  lstr : ∀ s, qL = some s → ow s.b = none
  pnd : ∃ ps : List (Nat × Nat × Option SL), Apd pdE h qP ps ∧ ps.length = D.pends.length ∧ ∀ (k : Nat) (x : Nat × Nat × Option SL) (y : PD), ps[k]? = some x → D.pends[k]? = some y → x.1 = y.1 ∧ x.2.1 = y.2.1 ∧ HasL byE h x.2.2 y.2.2 ∧ y.2.2.length = 64 ∧ ∀ s, x.2.2 = some s → ow s.b = none
  pndr : ∀ s, qP = some s → ow s.b = some .pends
  file : ∀ f ∈ D.files, RFile h ow f
  names : (D.files.map (·.name)).Nodup
  blocks : (D.files.map (·.b)).Nodup
  pfile : ∀ x ∈ D.pends, ∃ f ∈ D.files, f.b = x.1 ∧ x.2.1 < f.now.length
  many : D.files.length ≤ 256
  used : (D.files.map (·.now.length)).sum ≤ 16384
  lim : D.limit ≤ 16384
  lft : -1 ≤ D.left ∧ D.left ≤ 9223372036854775807
def RDR (h : Heap) (ow : Roles) (p : Nat) (D : DS) : Prop := ∃ qL qP, RDC h ow p qL qP D
section
variable {h h' : Heap} {ow ow' : Roles} {p : Nat} {qL qP : Option SL} {D : DS} {f : FA} {Q : AV → Heap → Prop}
/-- What nobody writes is as it was. -/
theorem SecL.keeps {X : Nat → Prop} {q : Option SL} {l : List Bs} (S : SecL h ow q l) (K : Keeps X h h') (hq : ∀ s, q = some s → ¬ X s.b) (hX : ∀ b, ow b = none → b < h.length → ¬ X b) (ho : ∀ b, ow b = none → b < h.length → ow' b = none) : SecL h' ow' q l := by
  obtain ⟨qs, A, hl, hel⟩ := S
  refine ⟨qs, A.keeps K hq, hl, fun k t x h1 h2 => ?_⟩
  obtain ⟨a, b, c⟩ := hel k t x h1 h2
  exact ⟨K.hasL (fun s hs => hX _ (c s hs) (HasL.live a s hs)) a, b, fun s hs => ho _ (c s hs) (HasL.live a s hs)⟩
theorem RDC.ext (C : RDC h ow p qL qP D) (K : Keeps (fun b => b ≥ h.length) h h') (hl : h.length ≤ h'.length) : RDC h' ow p qL qP D := by
  have lt : ∀ b, b < h.length → ¬ b ≥ h.length := fun b hb => by omega
  have lv : ∀ b, ow b ≠ none → ¬ b ≥ h.length := fun b hb => by have := C.live b hb; omega
  refine { C with live := fun b hb => by have := C.live b hb; omega, pb := K _ _ (lv p (by simp [C.pr])) C.pb, lst := K.hasL (fun s hs => lt _ (HasL.live C.lst s hs)) C.lst, pnd := ?_, file := fun f hf => ?_ }
  · obtain ⟨ps, A, hl2, hel⟩ := C.pnd
    refine ⟨ps, A.keeps K (fun s hs => lv _ (by simp [C.pndr s hs])), hl2, fun k x y h1 h2 => ?_⟩
    obtain ⟨a, b, c, d, e⟩ := hel k x y h1 h2
    exact ⟨a, b, K.hasL (fun s hs => lt _ (HasL.live c s hs)) c, d, e⟩
  · obtain ⟨r, qn, qs, c, a1, a2, r1, r2⟩ := C.file f hf
    exact ⟨r, qn, qs, K _ _ (lv _ (by simp [r])) c, a1.keeps K (fun s hs => lv _ (by simp [r1 s hs])) (fun b _ hb => lt b hb) (fun b hb _ => hb), a2.keeps K (fun s hs => lv _ (by simp [r2 s hs])) (fun b _ hb => lt b hb) (fun b hb _ => hb), r1, r2⟩
theorem RDC.grow (C : RDC h ow p qL qP D) (x : Ext h h') : RDC h' ow p qL qP D := C.ext (fun b B _ hB => x b B hB) x.len
theorem RDR.grow (R : RDR h ow p D) (x : Ext h h') : RDR h' ow p D := by
  obtain ⟨qL, qP, C⟩ := R
  exact ⟨qL, qP, C.grow x⟩
theorem RDC.at (C : RDC h ow p qL qP D) {k : Nat} {x : AV} (hx : [AV.sl qL, .sl qP, .int .i64 D.limit, .int .i64 D.left, .bool D.off][k]? = some x) : cellsAt h ⟨p, 0 + k⟩ 1 = some [x] := by
  have hk : k < 5 := by
    have := (List.getElem?_eq_some_iff.1 hx).1
    simpa using this
  rw [cells6 C.pb (by simp only [List.length_cons, List.length_nil]; omega)]
  match k, hk with
  | 0, _ | 1, _ | 2, _ | 3, _ | 4, _ => cases hx; rfl
/-- New. -/
theorem r50 {n : Int} (h0 : 0 ≤ n) (h1 : n ≤ 16384) (hQ : ∀ ow, RDR (h ++ [.cells [.sl none, .sl none, .int .i64 n, .int .i64 (-1), .bool false] true]) ow h.length (emptyD n) → (∀ b, ow b ≠ none → b = h.length) → Q (.ptr (some ⟨h.length, 0⟩)) (h ++ [.cells [.sl none, .sl none, .int .i64 n, .int .i64 (-1), .bool false] true])) : AC Tryz.prog 50 [.int .i64 n] h Q := ac50 (by
  unfold vc50 PNew
  refine vif_mk (fun g => by have := of_decide_eq_true g; omega) (fun _ => vif_mk (fun g => by have := of_decide_eq_true g; omega) (fun _ => ?_))
  refine hQ (fun b => if b = h.length then some .disk else none) ⟨none, none, ?_⟩ (fun b hb => by
    apply Classical.byContradiction
    intro hc
    simp [hc] at hb)
  refine ⟨fun b hb => ?_, by simp, by simp [emptyD], rfl, by simp, ⟨[], .inl ⟨rfl, rfl⟩, rfl, by simp⟩, by simp, by simp [emptyD], by simp [emptyD], by simp [emptyD], by simp [emptyD], by simp [emptyD], by simp [emptyD], h1, by simp [emptyD]⟩
  have : b = h.length := by
    apply Classical.byContradiction
    intro hc
    simp [hc] at hb
  subst this
  simp)
theorem r198 {s : Bs} (hQ : Q (.bool (mayN s)) h) : AC Tryz.prog 198 [.str s] h Q := ac198 (by
  unfold vc198
  unfold mayN at hQ
  refine vif_mk (fun g => ?_) (fun g => ?_)
  · replace g := of_decide_eq_true g
    rw [decide_eq_true (by omega), Bool.true_and] at hQ
    have : decide ((s.length : Int) ≤ 24) = decide (s.length ≤ 24) := decide_eq_decide.2 ⟨fun h => by omega, fun h => by omega⟩
    rw [this]; exact hQ
  · replace g := of_decide_eq_false g
    rw [decide_eq_false (by omega), Bool.false_and] at hQ
    exact hQ)
/-- A disk that has power. -/
theorem r199 {e : Int} (C : RDC h ow p qL qP D) (hon : D.off = false) (hl : D.left = -1) (hQ : Q (.int .i64 e) h) : AC Tryz.prog 199 [.ptr (some ⟨p, 0⟩), .int .i64 e] h Q := ac199 (by
  unfold vc199
  refine vif_mk (fun g => hQ) (fun _ => ⟨_, C.at (k := 4) rfl, ?_⟩)
  rw [hon]
  refine vif_mk (fun g => by cases g) (fun _ => vif_mk (fun _ => hQ) (fun g => ?_))
  have g : e = 0 := by simpa using g
  subst g
  refine ac258 ?_
  unfold vc258
  refine ⟨_, C.at (k := 3) rfl, ?_⟩
  rw [hl]
  refine vif_mk (fun g => by simp at g) (fun _ => ⟨_, C.at (k := 3) rfl, ?_⟩)
  rw [hl]
  exact vif_mk (fun g => by simp at g) (fun _ => ⟨_, rfl, vif_mk (fun g => by simp at g) (fun _ => hQ)⟩))
/-- Find. -/
theorem r55 {s : Bs} (C : RDC h ow p qL qP D) (h0 : D.find s = none → Q (.ptr none) h) (h1 : ∀ f, D.find s = some f → Q (.ptr (some ⟨f.b, 0⟩)) h) : AC Tryz.prog 55 [.ptr (some ⟨p, 0⟩), .str s] h Q := ac55 (by
  unfold vc55
  have hll := C.lst.len
  rw [List.length_map] at hll
  refine ⟨fun xs h6 => h6 = h ∧ ∃ i : Nat, xs = [.int .i64 (i : Nat)] ∧ i ≤ D.files.length ∧ ∀ f ∈ D.files.take i, f.name ≠ s, fun xs _ => match xs with | [.int _ i] => (D.files.length - i).toNat | _ => 0, ⟨rfl, 0, rfl, by omega, by simp⟩, ?_⟩
  rintro n3 h6 ⟨rfl, i, hx, hi, hn⟩
  simp only [List.cons.injEq, AV.int.injEq, true_and, and_true] at hx
  subst hx
  have hm := C.many
  refine ⟨_, C.at (k := 0) rfl, ?_⟩
  rw [hll]
  refine vif_mk (fun g => ?_) (fun g => ?_)
  · replace g := of_decide_eq_true g
    have hil : i < D.files.length := by omega
    have hf : D.files[i]? = some D.files[i] := List.getElem?_eq_getElem hil
    generalize D.files[i] = f at hf
    have hfm := List.mem_of_getElem? hf
    obtain ⟨r, qn, qs, c, _⟩ := C.file f hfm
    refine ⟨_, C.at (k := 0) rfl, ?_⟩
    refine HasL.idx (E := plE) C.lst (by omega) (by rw [List.length_map]; omega) fun p11 b hb hc => ?_
    rw [Int.toNat_natCast, List.getElem?_map, hf] at hb
    cases hb
    refine ⟨_, hc, _, by rw [cells6 c (by simp)]; rfl, ?_⟩
    refine vif_mk (fun g2 => ?_) (fun g2 => ?_)
    · have g2 : f.name = s := by simpa using g2
      refine ⟨_, C.at (k := 0) rfl, ?_⟩
      refine HasL.idx (E := plE) C.lst (by omega) (by rw [List.length_map]; omega) fun p17 b hb hc => ?_
      rw [Int.toNat_natCast, List.getElem?_map, hf] at hb
      cases hb
      refine ⟨_, hc, h1 f ?_⟩
      unfold DS.find
      rw [List.find?_eq_some_iff_getElem]
      obtain ⟨hl, rfl⟩ := List.getElem?_eq_some_iff.1 hf
      refine ⟨by simpa using g2, i, hl, rfl, fun j hj => ?_⟩
      have : D.files[j] ∈ D.files.take i := List.mem_of_getElem? (i := j) (by rw [List.getElem?_take, if_pos hj]; exact List.getElem?_eq_getElem _)
      simpa using hn _ this
    · have g2 : f.name ≠ s := by simpa using g2
      rw [wrapK_i64 ⟨by omega, by omega⟩]
      refine ⟨trivial, ⟨rfl, i + 1, by simp, by omega, fun g hg => ?_⟩, by simp only; omega⟩
      rw [List.take_add_one, hf] at hg
      rcases List.mem_append.1 hg with hg | hg
      · exact hn g hg
      · simp at hg; subst hg; exact g2
  · replace g := of_decide_eq_false g
    have : i = D.files.length := by omega
    subst this
    rw [List.take_length] at hn
    exact h0 (List.find?_eq_none.2 fun f hf => by simpa using hn f hf))
theorem sum_take {fs : List FA} {i : Nat} {f : FA} (hf : fs[i]? = some f) : ((fs.take (i + 1)).map (·.now.length)).sum = ((fs.take i).map (·.now.length)).sum + f.now.length := by
  rw [List.take_add_one, hf]; simp
theorem sumF_le {fs : List FA} {i : Nat} : ((fs.take i).map (·.now.length)).sum ≤ (fs.map (·.now.length)).sum := by
  have : fs = fs.take i ++ fs.drop i := (List.take_append_drop _ _).symm
  conv => rhs; rw [this]
  rw [List.map_append, List.sum_append]; omega
/-- Used. -/
theorem r53 (C : RDC h ow p qL qP D) (hQ : Q (.int .i64 (D.used : Nat)) h) : AC Tryz.prog 53 [.ptr (some ⟨p, 0⟩)] h Q := ac53 (by
  unfold vc53
  have hll := C.lst.len
  rw [List.length_map] at hll
  have hm := C.many
  have hus := C.used
  refine ⟨fun xs h6 => h6 = h ∧ ∃ i : Nat, xs = [.int .i64 (((D.files.take i).map (·.now.length)).sum : Nat), .int .i64 (i : Nat)] ∧ i ≤ D.files.length, fun xs _ => match xs with | [_, .int _ i] => (D.files.length - i).toNat | _ => 0, ⟨rfl, 0, rfl, by omega⟩, ?_⟩
  rintro n2 n3 h6 ⟨rfl, i, hx, hi⟩
  simp only [List.cons.injEq, AV.int.injEq, true_and, and_true] at hx
  obtain ⟨rfl, rfl⟩ := hx
  refine ⟨_, C.at (k := 0) rfl, ?_⟩
  rw [hll]
  refine vif_mk (fun g => ?_) (fun g => ?_)
  · replace g := of_decide_eq_true g
    have hil : i < D.files.length := by omega
    have hf : D.files[i]? = some D.files[i] := List.getElem?_eq_getElem hil
    generalize D.files[i] = f at hf
    have hfm := List.mem_of_getElem? hf
    obtain ⟨r, qn, qs, c, ⟨qss, A, hql, _⟩, _⟩ := C.file f hfm
    refine ⟨_, C.at (k := 0) rfl, ?_⟩
    refine HasL.idx (E := plE) C.lst (by omega) (by rw [List.length_map]; omega) fun p11 b hb hc => ?_
    rw [Int.toNat_natCast, List.getElem?_map, hf] at hb
    cases hb
    refine ⟨_, hc, _, by rw [cells6 c (by simp)]; rfl, trivial, ?_⟩
    have h1 := sum_take hf
    have h2 := sumF_le (fs := D.files) (i := i + 1)
    rw [A.hasL.len, hql, wrapK_i64 ⟨by omega, by omega⟩, wrapK_i64 ⟨by omega, by omega⟩]
    exact ⟨⟨rfl, i + 1, by rw [h1]; simp, by omega⟩, by simp only; omega⟩
  · replace g := of_decide_eq_false g
    have : i = D.files.length := by omega
    subst this
    rw [List.take_length]
    exact hQ)
end
end Go.Proofs.YtnglhicedhcpbaaGreatDoor
