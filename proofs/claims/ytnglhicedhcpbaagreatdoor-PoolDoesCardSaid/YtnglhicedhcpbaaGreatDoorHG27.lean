import Derived.Test.YtnglhicedhcpbaaGreatDoorHG19
import Derived.Test.YtnglhicedhcpbaaGreatDoorHG26
import Derived.KernelRfl
import Derived.Deep.Strs
namespace Go.Proofs.YtnglhicedhcpbaaGreatDoor
open Go.Ab
open Go.Num hiding Bs snoc_ind
open Go.Ent Go.Seg
open Go.Page hiding Bs get
open Go.Dsk hiding Bs
open Go.Pool hiding Bs Ents set_at Fr least
set_option linter.unusedVariables false
set_option linter.unusedSimpArgs false
def Hon (P : PS) : Prop := ∀ f ∈ P.fr, f.is = true → ∃ j i : Nat, j < 3 ∧ f.name = nameK j ∧ f.i = (i : Int) ∧ i < (headsK j).length ∧ pageR j i = (0, f.l)
theorem Hon.of {P P' : PS} (H : Hon P) (h : ∀ f ∈ P'.fr, f.is = true → ∃ g ∈ P.fr, g.is = true ∧ g.name = f.name ∧ g.i = f.i ∧ g.l = f.l) : Hon P' := fun f hf hi => by
  obtain ⟨g, hg, g1, g2, g3, g4⟩ := h f hf hi
  obtain ⟨j, i, a1, a2, a3, a4, a5⟩ := H g hg g1
  exact ⟨j, i, a1, by rw [← g2, a2], by rw [← g3, a3], a4, by rw [← g4]; exact a5⟩
theorem hon_new {n : Nat} : Hon (newP n) := fun f hf hi => by
  rw [List.eq_of_mem_replicate hf] at hi; cases hi
theorem hon_set {P : PS} (H : Hon P) {k : Nat} {f f' : Pool.Fr} (hf : P.fr[k]? = some f) (h1 : f'.is = f.is) (h2 : f'.name = f.name) (h3 : f'.i = f.i) (h4 : f'.l = f.l) {P' : PS} (hP : P'.fr = P.fr.set k f') : Hon P' := H.of fun g hg hi => by
  rw [hP] at hg
  rcases List.mem_or_eq_of_mem_set hg with hg | rfl
  · exact ⟨g, hg, hi, rfl, rfl, rfl⟩
  · exact ⟨f, List.mem_of_getElem? hf, by rw [← h1]; exact hi, h2.symm, h3.symm, h4.symm⟩
theorem hon_free {P : PS} (H : Hon P) {s : Bs} {n : Int} : Hon (P.free s n).2 := by
  unfold PS.free
  split
  · exact H
  · split
    · rename_i k hk f hf
      split
      · exact H
      · exact hon_set (f' := { f with held := f.held - 1 }) H hf rfl rfl rfl rfl rfl
    · exact H
theorem hon_drop {P : PS} (H : Hon P) {s : Bs} : Hon (P.drop s).2 := H.of fun f hf hi => by
  obtain ⟨g, hg, rfl⟩ := List.mem_map.1 hf
  split at hi
  · cases hi
  · rename_i hc
    rw [if_neg hc]
    exact ⟨g, hg, hi, rfl, rfl, rfl⟩
theorem pageB_ok {B : BadS} {j : Nat} {n : Int} (h : (pageB B j n).1 = 0) : ∃ i : Nat, n = (i : Int) ∧ i < (headsK j).length ∧ pageB B j n = pageR j n := by
  unfold pageB at h ⊢
  split
  · rename_i hn
    rw [if_pos hn] at h
    split
    · rename_i hb; rw [if_pos hb] at h; cases h
    · obtain ⟨i, rfl⟩ := Int.eq_ofNat_of_zero_le hn.1
      exact ⟨i, rfl, by have := hn.2; omega, rfl⟩
  · rename_i hn; rw [if_neg hn] at h; cases h
theorem hold_hon {P : PS} (H : Hon P) (ok : P.ok) {B : BadS} {j : Nat} (hj : j < 3) {n r1 : Int} {l1 : List Ent} {P1 : PS} (e : P.hold (nameK j) n (pageB B j n) = (r1, l1, P1)) : Hon P1 ∧ (r1 = 0 → ∃ i : Nat, n = (i : Int) ∧ i < (headsK j).length ∧ pageR j n = (0, l1)) := by
  unfold PS.hold at e
  cases hk : P.at (nameK j) n with
  | some k =>
    rw [hk] at e
    obtain ⟨f, hf, f1, f2, f3⟩ := of_at hk
    simp only [hf, up, Prod.mk.injEq] at e
    obtain ⟨rfl, rfl, rfl⟩ := e
    refine ⟨hon_set (f' := { f with held := f.held + 1, mark := true }) H hf rfl rfl rfl rfl rfl, fun _ => ?_⟩
    obtain ⟨j', i, a1, a2, a3, a4, a5⟩ := H f (List.mem_of_getElem? hf) f1
    have hjj : j' = j := by
      apply Classical.byContradiction
      intro hc
      exact nameK_ne a1 hj hc (by rw [← a2, f2])
    subst hjj
    exact ⟨i, by rw [← f3, a3], a4, by rw [← f3, a3]; exact a5⟩
  | none =>
    rw [hk] at e
    simp only at e
    by_cases hr : (pageB B j n).1 ≠ 0
    · rw [if_pos hr] at e
      simp only [Prod.mk.injEq] at e
      obtain ⟨rfl, rfl, rfl⟩ := e
      exact ⟨H, fun hc => absurd hc hr⟩
    · rw [if_neg hr] at e
      have hr0 : (pageB B j n).1 = 0 := by omega
      obtain ⟨i, hi1, hi2, hi3⟩ := pageB_ok hr0
      cases hp : P.place with
      | none =>
        rw [hp] at e
        simp only [Prod.mk.injEq] at e
        obtain ⟨rfl, rfl, rfl⟩ := e
        exact ⟨H, fun hc => by cases hc⟩
      | some kp =>
        obtain ⟨k, P'⟩ := kp
        rw [hp] at e
        simp only [Prod.mk.injEq] at e
        obtain ⟨rfl, rfl, rfl⟩ := e
        have hpr : pageR j n = (0, (pageB B j n).2) := by rw [hi3] at hr0 ⊢; exact Prod.ext hr0 rfl
        refine ⟨fun f hf hfi => ?_, fun _ => ⟨i, hi1, hi2, hpr⟩⟩
        rcases List.mem_or_eq_of_mem_set hf with hf | rfl
        · obtain ⟨g, hg, hc⟩ := core_mem (place_core hp ok.hand).1 hf
          simp only [core, Prod.mk.injEq] at hc
          obtain ⟨c1, c2, c3, c4, c5⟩ := hc
          obtain ⟨j', i', a1, a2, a3, a4, a5⟩ := H g hg (by rw [← c5]; exact hfi)
          exact ⟨j', i', a1, by rw [c1, a2], by rw [c2, a3], a4, by rw [c3]; exact a5⟩
        · exact ⟨j, i, hj, rfl, hi1, hi2, by rw [← hi1]; exact hpr⟩
def zP (ow : Roles) (n0 xp xb m : Nat) : Nat → Prop := fun b => b < n0 ∨ ow b ≠ none ∨ b = xp ∨ b = xb ∨ b = m
structure PW (h0 h : Heap) (ow : Roles) (dp a : Nat) (qS qL : Option SL) (fs : List FA) (sps : List Nat) (B Bm : BadS) (n0 p fb mb xp xb m : Nat) (P Px : PS) (N : Nat) : Prop where
  W : NB h0 h ow dp a qS qL fs sps B n0
  R : PoolR (entZ (zP ow n0 xp xb m)) h p fb mb P
  X : XR h xp xb Px
  M : MR h m Bm
  sm : P.sm N
  nl : N ≤ 1000000
  op : ∀ b, pbl p fb mb b → ow b = none ∧ n0 ≤ b ∧ b ≠ xp ∧ b ≠ xb ∧ b ≠ m ∧ b < h.length
  ox : ∀ b, (b = xp ∨ b = xb ∨ b = m) → ow b = none ∧ n0 ≤ b ∧ b < h.length
  nx : xp ≠ m ∧ xb ≠ m
  hon : Hon P
  n0l : n0 ≤ h.length
section
variable {h0 h h' : Heap} {Q : AV → Heap → Prop} {ow : Roles} {dp a sp n0 : Nat} {qS qL q : Option SL} {fs : List FA} {sps : List Nat} {p fb mb xp xb m N : Nat} {P Px P1 : PS} {B Bm : BadS}
theorem PW.ok (T : PW h0 h ow dp a qS qL fs sps B Bm n0 p fb mb xp xb m P Px N) : P.ok := by obtain ⟨_, _, _, C⟩ := T.R; exact C.ok
theorem PW.grow (T : PW h0 h ow dp a qS qL fs sps B Bm n0 p fb mb xp xb m P Px N) (x : Ext h h') : PW h0 h' ow dp a qS qL fs sps B Bm n0 p fb mb xp xb m P Px N :=
  { T with
    W := T.W.grow x
    R := T.R.ext x
    X := T.X.ext x
    M := T.M.keeps (X := fun _ => False) (keeps_of_ext x) (fun h => h)
    op := fun b hb => let ⟨a, b, c, d, e, f⟩ := T.op b hb; ⟨a, b, c, d, e, Nat.lt_of_lt_of_le f x.len⟩
    ox := fun b hb => let ⟨a, b, c⟩ := T.ox b hb; ⟨a, b, Nat.lt_of_lt_of_le c x.len⟩
    n0l := Nat.le_trans T.n0l x.len }
theorem PW.mono {M' : Nat} (T : PW h0 h ow dp a qS qL fs sps B Bm n0 p fb mb xp xb m P Px N) (hm : N ≤ M') (hl : M' ≤ 1000000) : PW h0 h ow dp a qS qL fs sps B Bm n0 p fb mb xp xb m P Px M' := { T with sm := T.sm.mono hm, nl := hl }
theorem PW.eng {M' : Nat} (T : PW h0 h ow dp a qS qL fs sps B Bm n0 p fb mb xp xb m P Px N) (R : PoolR (entZ (zP ow n0 xp xb m)) h' p fb mb P1) (K : Keeps (pbl p fb mb) h h') (hl : h.length ≤ h'.length) (hs : P1.sm M') (hm : M' ≤ 1000000) (hh : Hon P1) : PW h0 h' ow dp a qS qL fs sps B Bm n0 p fb mb xp xb m P1 Px M' :=
  { T with
    W := T.W.keeps K (fun b hb => ⟨(T.op b hb).2.1, (T.op b hb).1⟩) hl
    R := R
    X := T.X.keeps K (fun hc => (T.op _ hc).2.2.1 rfl) (fun hc => (T.op _ hc).2.2.2.1 rfl)
    M := T.M.keeps K (fun hc => (T.op _ hc).2.2.2.2.1 rfl)
    sm := hs
    nl := hm
    op := fun b hb => let ⟨a, b, c, d, e, f⟩ := T.op b hb; ⟨a, b, c, d, e, Nat.lt_of_lt_of_le f hl⟩
    ox := fun b hb => let ⟨a, b, c⟩ := T.ox b hb; ⟨a, b, Nat.lt_of_lt_of_le c hl⟩
    hon := hh
    n0l := Nat.le_trans T.n0l hl }
theorem PW.doc (T : PW h0 h ow dp a qS qL fs sps B Bm n0 p fb mb xp xb m P Px N) (X : XR h' xp xb P1) (K : Keeps (xbl xp xb) h h') (hl : h'.length = h.length) : PW h0 h' ow dp a qS qL fs sps B Bm n0 p fb mb xp xb m P P1 N := by
  obtain ⟨rs, es, cl, C⟩ := T.R
  have np : ∀ b, pbl p fb mb b → ¬ xbl xp xb b := fun b hb hc => by
    obtain ⟨_, _, h1, h2, _⟩ := T.op b hb
    rcases hc with hc | hc
    · exact h1 hc
    · exact h2 hc
  have nm : ¬ xbl xp xb m := fun hc => by
    rcases hc with hc | hc
    · exact T.nx.1 hc.symm
    · exact T.nx.2 hc.symm
  exact { T with
    W := T.W.keeps K (fun b hb => by
      have := T.ox b (by rcases hb with h | h <;> simp [h])
      exact ⟨this.2.1, this.1⟩) (by omega)
    R := ⟨rs, es, cl, C.keepsZ K (fun b hb => .inr (.inr (by rcases hb with h | h <;> simp [h]))) ⟨np _ (.inl rfl), np _ (.inr (.inl rfl)), np _ (.inr (.inr rfl))⟩⟩
    X := X
    M := T.M.keeps K nm
    op := fun b hb => by rw [hl]; exact T.op b hb
    ox := fun b hb => by rw [hl]; exact T.ox b hb
    n0l := by rw [hl]; exact T.n0l }
theorem PW.map {B1 : BadS} (T : PW h0 h ow dp a qS qL fs sps B Bm n0 p fb mb xp xb m P Px N) (M : MR h' m B1) (K : Keeps (fun x => x = m) h h') (hl : h'.length = h.length) : PW h0 h' ow dp a qS qL fs sps B B1 n0 p fb mb xp xb m P Px N := by
  obtain ⟨rs, es, cl, C⟩ := T.R
  have np : ∀ b, pbl p fb mb b → ¬ b = m := fun b hb => (T.op b hb).2.2.2.2.1
  exact { T with
    W := T.W.keeps K (fun b hb => by
      have := T.ox b (.inr (.inr hb))
      exact ⟨this.2.1, this.1⟩) (by omega)
    R := ⟨rs, es, cl, C.keepsZ K (fun b hb => .inr (.inr (.inr (.inr hb)))) ⟨np _ (.inl rfl), np _ (.inr (.inl rfl)), np _ (.inr (.inr rfl))⟩⟩
    X := T.X.keeps K T.nx.1 T.nx.2
    M := M
    op := fun b hb => by rw [hl]; exact T.op b hb
    ox := fun b hb => by rw [hl]; exact T.ox b hb
    n0l := by rw [hl]; exact T.n0l }
theorem PW.disk {ow' : Roles} {fs' : List FA} {B1 : BadS} (T : PW h0 h ow dp a qS qL fs sps B Bm n0 p fb mb xp xb m P Px N) (W : NB h0 h' ow' dp a qS qL fs' sps B1 n0) (S : DStep ow h ow' h') : PW h0 h' ow' dp a qS qL fs' sps B1 Bm n0 p fb mb xp xb m P Px N := by
  obtain ⟨rs, es, cl, C⟩ := T.R
  have np : ∀ b, pbl p fb mb b → ¬ dsk ow b := fun b hb hc => hc (T.op b hb).1
  have nx : ∀ b, (b = xp ∨ b = xb ∨ b = m) → ¬ dsk ow b := fun b hb hc => hc (T.ox b hb).1
  have non : ∀ b, b < h.length → ow b = none → ow' b = none := fun b hb ho => by
    cases hc : ow' b with
    | none => rfl
    | some r =>
      exfalso
      rcases S.own b (by rw [hc]; simp) with h1 | h1
      · exact h1 ho
      · omega
  have C1 := C.more (z := fun b => zP ow n0 xp xb m b ∨ zP ow' n0 xp xb m b) (fun b hb => by
    rcases hb with hb | hb
    · exact .inl hb
    · rcases hb with hb | hb | hb
      · exact .inl (.inl hb)
      · rcases S.own b hb with h1 | h1
        · exact .inl (.inr (.inl h1))
        · exact .inr h1
      · exact .inl (.inr (.inr hb)))
  have C2 := (C1.keepsZ S.keeps (fun b hb => .inl (.inr (.inl hb))) ⟨np _ (.inl rfl), np _ (.inr (.inl rfl)), np _ (.inr (.inr rfl))⟩).more (z := zP ow' n0 xp xb m) (fun b hb => .inl (.inr hb))
  exact { T with
    W := W
    R := ⟨rs, es, cl, C2⟩
    X := T.X.keeps S.keeps (nx _ (.inl rfl)) (nx _ (.inr (.inl rfl)))
    M := T.M.keeps S.keeps (nx _ (.inr (.inr rfl)))
    op := fun b hb => let ⟨a, b1, c, d, e, f⟩ := T.op b hb; ⟨non b f a, b1, c, d, e, Nat.lt_of_lt_of_le f S.len⟩
    ox := fun b hb => let ⟨a, b1, c⟩ := T.ox b hb; ⟨non b c a, b1, Nat.lt_of_lt_of_le c S.len⟩
    n0l := Nat.le_trans T.n0l S.len }
theorem PW.hold {j : Nat} {n r1 : Int} {l1 : List Ent} (T : PW h0 h ow dp a qS qL fs sps B Bm n0 p fb mb xp xb m P Px N) (hN : N + 1 ≤ 1000000) (hj : sps[j]? = some sp) (e : P.hold (nameK j) n (pageB B j n) = (r1, l1, P1))
    (hQ : ∀ q' h', PW h0 h' ow dp a qS qL fs sps B Bm n0 p fb mb xp xb m P1 Px (N + 1) → Keeps (pbl p fb mb) h h' → (r1 = 0 → HasL entE h' q' l1 ∧ l1 ≠ [] ∧ l1.length ≤ 10 ∧ (∀ t, q' = some t → h.length ≤ t.b) ∧ ∃ i : Nat, n = (i : Int) ∧ i < (headsK j).length ∧ pageR j n = (0, l1)) → (r1 ≠ 0 → q' = none) → Q (.tup [.sl q', .int .i64 r1]) h') :
    AC Tryz.prog 70 [.ptr (some ⟨p, 0⟩), .ptr (some ⟨sp, 0⟩), .int .i64 n] h Q := by
  have ok := T.ok
  have R0 := T.R
  obtain ⟨rs, es, cl, C⟩ := R0
  have W := T.W
  have hj3 : j < 3 := by rw [← W.sl]; exact (List.getElem?_eq_some_iff.1 hj).1
  obtain ⟨q, S1, S2, S3⟩ := W.seg j sp hj
  obtain ⟨hh, ht⟩ := hold_hon T.hon ok hj3 e
  refine k70 (s := nameK j) (base := baseK j) (count := cntK j) (q0 := q) (dp := dp) (r := pageB B j n) C T.sm.lt (by omega) (fun f hf => by have := T.sm.l f hf; omega) (by have := pageB_len (B := B) hj3 (n := n); omega) (fun b hb => ?_) S1 (fun hc => by have := (T.op _ hc).2.1; have := (S3 sp (.inl rfl)).2; omega)
    (fun {h'} {K} x hE hK => (W.grow x).page hj (fun he h2 x2 => hE he h2 x2) (fun he q h2 x2 H f => hK he q h2 x2 H f)) fun q' h' R' K' l' h1 h2 => ?_
  · rcases hb with hb | hb | hb
    · have := T.n0l; omega
    · exact W.disk.live b hb
    · exact (T.ox b hb).2.2
  · have sm1 := hold_sm (s := nameK j) (i := n) T.sm ok.hand (r := pageB B j n) (by have := pageB_len (B := B) hj3 (n := n); omega)
    rw [e] at R' h1 h2 sm1 ⊢
    refine hQ q' h' (T.eng R' K' l' sm1 hN hh) K' (fun h0 => ?_) h2
    obtain ⟨i, a1, a2, a3⟩ := ht h0
    obtain ⟨g, _, b2, _, b4, b5⟩ := pageR_some hj3 (n := n) (by omega) (by omega)
    have : g = l1 := by rw [b2] at a3; cases a3; rfl
    subst this
    exact ⟨(h1 h0).1, b4, b5, (h1 h0).2, i, a1, a2, a3⟩
theorem tail80 {c : Int} {q23 q19 : Option SL} {l : List Ent} (h1 : c ≠ 0 → q23 = none) (h2 : c = 0 → HasL entE h q23 l ∧ l ≠ [] ∧ l.length ≤ 10) (h3 : c = 0 → slLen q19 ≠ 0 → HasL entE h q19 l) (hQ : Q (.bool true) h) :
    vif (c == c)
      (vif (c != 0)
        (vif ((slLen q23 : Int) == 0) (Q (.bool true) h) (vif (c == 0) (vif (decide ((slLen q23 : Int) > 0)) (vif ((slLen q19 : Int) == 0) (Q (.bool true) h) (AC Tryz.prog 62 [.sl q23, .sl q19] h fun v28 h29 => ∃ b30 : Bool, v28 = .bool b30 ∧ Q (.bool b30) h29)) (Q (.bool false) h)) (Q (.bool false) h)))
        (vif (c == 0) (vif (decide ((slLen q23 : Int) > 0)) (vif ((slLen q19 : Int) == 0) (Q (.bool true) h) (AC Tryz.prog 62 [.sl q23, .sl q19] h fun v28 h29 => ∃ b30 : Bool, v28 = .bool b30 ∧ Q (.bool b30) h29)) (Q (.bool false) h)) (Q (.bool false) h)))
      (Q (.bool false) h) := by
  refine vif_mk (fun _ => vif_mk (fun g => ?_) (fun g => ?_)) (fun g => by simp at g)
  · have g : c ≠ 0 := by simpa using g
    rw [h1 g]
    exact vif_mk (fun _ => hQ) (fun g => by simp [slLen] at g)
  · have g : c = 0 := by simpa using g
    obtain ⟨a1, a2, a3⟩ := h2 g
    have hl : 0 < l.length := List.length_pos_iff.2 a2
    refine vif_mk (fun _ => vif_mk (fun _ => vif_mk (fun _ => hQ) (fun g2 => ?_)) (fun g2 => ?_)) (fun g2 => by simp [g] at g2)
    · have g2 : slLen q19 ≠ 0 := by simpa using g2
      refine k62 a1 (h3 g g2) (by omega) ⟨_, rfl, ?_⟩
      simpa using hQ
    · rw [a1.len] at g2
      have := of_decide_eq_false g2; omega
theorem tail80b {c : Int} {q23 : Option SL} {l : List Ent} (h1 : c ≠ 0 → q23 = none) (h2 : c = 0 → HasL entE h q23 l ∧ l ≠ [] ∧ l.length ≤ 10) (hQ : Q (.bool true) h) :
    vif (c == c)
      (vif (c != 0)
        (vif ((slLen q23 : Int) == 0) (Q (.bool true) h) (vif (c == 0) (vif (decide ((slLen q23 : Int) > 0)) (Q (.bool true) h) (Q (.bool false) h)) (Q (.bool false) h)))
        (vif (c == 0) (vif (decide ((slLen q23 : Int) > 0)) (Q (.bool true) h) (Q (.bool false) h)) (Q (.bool false) h)))
      (Q (.bool false) h) := by
  refine vif_mk (fun _ => vif_mk (fun g => ?_) (fun g => ?_)) (fun g => by simp at g)
  · have g : c ≠ 0 := by simpa using g
    rw [h1 g]
    exact vif_mk (fun _ => hQ) (fun g => by simp [slLen] at g)
  · have g : c = 0 := by simpa using g
    obtain ⟨a1, a2, a3⟩ := h2 g
    have hl : 0 < l.length := List.length_pos_iff.2 a2
    refine vif_mk (fun _ => vif_mk (fun _ => hQ) (fun g2 => ?_)) (fun g2 => by simp [g] at g2)
    rw [a1.len] at g2
    have := of_decide_eq_false g2; omega
end
section
variable {h0 h h' : Heap} {Q : AV → Heap → Prop} {ow : Roles} {dp a sp n0 : Nat} {qS qL q : Option SL} {fs : List FA} {sps : List Nat} {p fb mb xp xb m N : Nat} {P Px P1 : PS} {B Bm : BadS}
attribute [local irreducible] findP keyIs in
theorem k80 (T : PW h0 h ow dp a qS qL fs sps B B n0 p fb mb xp xb m P P N) (hN : N + 1 ≤ 1000000) {kind s i : Int} (hs0 : 0 ≤ s) (hs1 : s ≤ 2)
    (hQ : ∀ h' ow' fs' B' P', PW h0 h' ow' dp a qS qL fs' sps B' B' n0 p fb mb xp xb m P' P' (N + 1) → Q (.bool true) h') :
    AC Tryz.prog 80 [.ptr (some ⟨a, 0⟩), .ptr (some ⟨p, 0⟩), .ptr (some ⟨xp, 0⟩), .agg [.int .i64 kind, .int .i64 s, .int .i64 i], .map (some m)] h Q := ac80 (by
  unfold vc80
  obtain ⟨j, rfl⟩ := Int.eq_ofNat_of_zero_le hs0
  have hj3 : j < 3 := by omega
  have ok := T.ok
  have few := ok.few
  have hlt := T.sm.lt
  refine ⟨_, T.W.segs, T.W.idx (by omega) (by omega) fun pp sp hsp hc => ⟨_, hc, ?_⟩⟩
  rw [Int.toNat_natCast] at hsp
  refine k72 fun q14 h13 x13 hidx => ⟨_, rfl, rfl, hidx j _ hj3 fun p15 hc15 => ⟨_, hc15, ?_⟩⟩
  have T13 := T.grow x13
  obtain ⟨qh, S1, S2, S3⟩ := T13.W.seg j sp hsp
  refine vif_mk (fun _ => ?_) (fun _ => ?_)
  ·
    have body : ∀ (q19 : Option SL) (h18 : Heap), Ext h13 h18 → (∀ t, q19 = some t → h13.length ≤ t.b) → ((pageB B j i).1 = 0 → HasL entE h18 q19 (pageB B j i).2) → ((pageB B j i).1 ≠ 0 → q19 = none) →
        vif (decide (i < 0)) ((LV.val (.tup []) = LV.val (.tup [])) ∧
          AC Tryz.prog 70 [.ptr (some ⟨p, 0⟩), .ptr (some ⟨sp, 0⟩), .int .i64 i] h18 fun v21 h22 => ∃ q23 : Option SL, ∃ n24 : Int, v21 = .tup [.sl q23, .int .i64 n24] ∧
            AC Tryz.prog 152 [.ptr (some ⟨xp, 0⟩), .str (nameK j), .int .i64 i, .int .i64 4] h22 fun v25 h26 => ∃ n27 : Int, v25 = .int .i64 n27 ∧
              vif (n24 == n27)
                (vif (n24 != 0)
                  (vif ((slLen q23 : Int) == 0) (Q (.bool true) h26) (vif (n24 == 0) (vif (decide ((slLen q23 : Int) > 0)) (vif ((slLen q19 : Int) == 0) (Q (.bool true) h26) (AC Tryz.prog 62 [.sl q23, .sl q19] h26 fun v28 h29 => ∃ b30 : Bool, v28 = .bool b30 ∧ Q (.bool b30) h29)) (Q (.bool false) h26)) (Q (.bool false) h26)))
                  (vif (n24 == 0) (vif (decide ((slLen q23 : Int) > 0)) (vif ((slLen q19 : Int) == 0) (Q (.bool true) h26) (AC Tryz.prog 62 [.sl q23, .sl q19] h26 fun v28 h29 => ∃ b30 : Bool, v28 = .bool b30 ∧ Q (.bool b30) h29)) (Q (.bool false) h26)) (Q (.bool false) h26)))
                (Q (.bool false) h26))
          (AC Tryz.prog 22 [.ptr (some ⟨sp, 0⟩)] h18 fun v34 h35 => ∃ n36 : Int, v34 = .int .i64 n36 ∧ (LV.val (.int .i64 i) = LV.val (.int .i64 i)) ∧
            vif (decide (i ≥ n36))
              (AC Tryz.prog 70 [.ptr (some ⟨p, 0⟩), .ptr (some ⟨sp, 0⟩), .int .i64 i] h35 fun v21 h22 => ∃ q23 : Option SL, ∃ n24 : Int, v21 = .tup [.sl q23, .int .i64 n24] ∧
                AC Tryz.prog 152 [.ptr (some ⟨xp, 0⟩), .str (nameK j), .int .i64 i, .int .i64 4] h22 fun v25 h26 => ∃ n27 : Int, v25 = .int .i64 n27 ∧
                  vif (n24 == n27)
                    (vif (n24 != 0)
                      (vif ((slLen q23 : Int) == 0) (Q (.bool true) h26) (vif (n24 == 0) (vif (decide ((slLen q23 : Int) > 0)) (vif ((slLen q19 : Int) == 0) (Q (.bool true) h26) (AC Tryz.prog 62 [.sl q23, .sl q19] h26 fun v28 h29 => ∃ b30 : Bool, v28 = .bool b30 ∧ Q (.bool b30) h29)) (Q (.bool false) h26)) (Q (.bool false) h26)))
                      (vif (n24 == 0) (vif (decide ((slLen q23 : Int) > 0)) (vif ((slLen q19 : Int) == 0) (Q (.bool true) h26) (AC Tryz.prog 62 [.sl q23, .sl q19] h26 fun v28 h29 => ∃ b30 : Bool, v28 = .bool b30 ∧ Q (.bool b30) h29)) (Q (.bool false) h26)) (Q (.bool false) h26)))
                    (Q (.bool false) h26))
              (PLookup Tryz.prog 238 4 (some m) (.agg [.int .i64 ((j : Nat) : Int), .int .i64 i]) false h35 fun v50 => ∃ b51 : Bool, v50 = .bool b51 ∧
                vif b51
                  (AC Tryz.prog 70 [.ptr (some ⟨p, 0⟩), .ptr (some ⟨sp, 0⟩), .int .i64 i] h35 fun v21 h22 => ∃ q23 : Option SL, ∃ n24 : Int, v21 = .tup [.sl q23, .int .i64 n24] ∧
                    AC Tryz.prog 152 [.ptr (some ⟨xp, 0⟩), .str (nameK j), .int .i64 i, .int .i64 80] h22 fun v25 h26 => ∃ n27 : Int, v25 = .int .i64 n27 ∧
                      vif (n24 == n27)
                        (vif (n24 != 0)
                          (vif ((slLen q23 : Int) == 0) (Q (.bool true) h26) (vif (n24 == 0) (vif (decide ((slLen q23 : Int) > 0)) (Q (.bool true) h26) (Q (.bool false) h26)) (Q (.bool false) h26)))
                          (vif (n24 == 0) (vif (decide ((slLen q23 : Int) > 0)) (Q (.bool true) h26) (Q (.bool false) h26)) (Q (.bool false) h26)))
                        (Q (.bool false) h26))
                  (AC Tryz.prog 70 [.ptr (some ⟨p, 0⟩), .ptr (some ⟨sp, 0⟩), .int .i64 i] h35 fun v21 h22 => ∃ q23 : Option SL, ∃ n24 : Int, v21 = .tup [.sl q23, .int .i64 n24] ∧
                    AC Tryz.prog 152 [.ptr (some ⟨xp, 0⟩), .str (nameK j), .int .i64 i, .int .i64 0] h22 fun v25 h26 => ∃ n27 : Int, v25 = .int .i64 n27 ∧
                      vif (n24 == n27)
                        (vif (n24 != 0)
                          (vif ((slLen q23 : Int) == 0) (Q (.bool true) h26) (vif (n24 == 0) (vif (decide ((slLen q23 : Int) > 0)) (vif ((slLen q19 : Int) == 0) (Q (.bool true) h26) (AC Tryz.prog 62 [.sl q23, .sl q19] h26 fun v28 h29 => ∃ b30 : Bool, v28 = .bool b30 ∧ Q (.bool b30) h29)) (Q (.bool false) h26)) (Q (.bool false) h26)))
                          (vif (n24 == 0) (vif (decide ((slLen q23 : Int) > 0)) (vif ((slLen q19 : Int) == 0) (Q (.bool true) h26) (AC Tryz.prog 62 [.sl q23, .sl q19] h26 fun v28 h29 => ∃ b30 : Bool, v28 = .bool b30 ∧ Q (.bool b30) h29)) (Q (.bool false) h26)) (Q (.bool false) h26)))
                        (Q (.bool false) h26)))) := by
      intro q19 h18 x18 F19 H0 H1
      have T18 := T13.grow x18
      obtain ⟨qh, S1, S2, S3⟩ := T18.W.seg j sp hsp
      generalize hR : P.hold (nameK j) i (pageB B j i) = R
      obtain ⟨r1, l1, P1⟩ := R
      have fin : ∀ {e : Int} {l : List Ent} {h22 : Heap} {K : AV → Heap → Prop}, pageB B j i = (e, l) → PW h0 h22 ow dp a qS qL fs sps B B n0 p fb mb xp xb m P1 P (N + 1) →
          (∀ h26, PW h0 h26 ow dp a qS qL fs sps B B n0 p fb mb xp xb m P1 P1 (N + 1) → Keeps (xbl xp xb) h22 h26 → K (.int .i64 r1) h26) → AC Tryz.prog 152 [.ptr (some ⟨xp, 0⟩), .str (nameK j), .int .i64 i, .int .i64 e] h22 K := fun {e l h22 K} he T22 hK => by
        refine k152 (l := l) T22.X ok hlt (by omega) fun h26 X26 K26 l26 => ?_
        rw [← he, hR] at X26 ⊢
        exact hK h26 (T22.doc X26 K26 l26) K26
      have nx : ∀ b, xbl xp xb b → b < h13.length := fun b hb => (T13.ox b (by rcases hb with h | h <;> simp [h])).2.2
      have want : ∀ {h22 h26 : Heap}, Keeps (pbl p fb mb) h18 h22 → Keeps (xbl xp xb) h22 h26 → pageR j i = (0, l1) → slLen q19 ≠ 0 → HasL entE h26 q19 l1 := fun {h22 h26} K22 K26 hp hl => by
        by_cases hb : (pageB B j i).1 = 0
        · obtain ⟨_, _, _, hbr⟩ := pageB_ok hb
          have H := H0 hb
          rw [hbr, hp] at H
          refine K26.hasL (fun t ht hx => ?_) (K22.hasL (fun t ht hx => ?_) H)
          · have := F19 t ht; have := nx _ hx; omega
          · have := F19 t ht; have := (T13.op _ hx).2.2.2.2.2; omega
        · rw [H1 hb] at hl; exact absurd rfl hl
      have told : ∀ {h22 h26 : Heap} {q23 : Option SL}, Keeps (xbl xp xb) h22 h26 → HasL entE h22 q23 l1 → (∀ t, q23 = some t → h18.length ≤ t.b) → HasL entE h26 q23 l1 := fun {h22 h26 q23} K26 H f => K26.hasL (fun t ht hx => by have := f t ht; have := nx _ hx; have := x18.len; omega) H
      have none4 : (¬ (0 ≤ i ∧ i < (headsK j).length)) → pageB B j i = (4, []) := fun hn => by unfold pageB; rw [if_neg hn]
      refine vif_mk (fun g => ?_) (fun g => ?_)
      · replace g := of_decide_eq_true g
        refine ⟨rfl, T18.hold hN hsp hR fun q23 h22 T22 K22 H22 N22 => ⟨_, _, rfl, fin (none4 (by omega)) T22 fun h26 T26 K26 => ⟨_, rfl, ?_⟩⟩⟩
        exact tail80 N22 (fun h0 => ⟨told K26 (H22 h0).1 (H22 h0).2.2.2.1, (H22 h0).2.1, (H22 h0).2.2.1⟩) (fun h0 hl => by obtain ⟨_, _, _, _, _, _, _, hp⟩ := H22 h0; exact want K22 K26 hp hl) (hQ h26 _ _ _ _ T26)
      replace g := of_decide_eq_false g
      refine k22 S1 S2 ⟨_, rfl, rfl, vif_mk (fun g1 => ?_) (fun g1 => ?_)⟩
      · replace g1 := of_decide_eq_true g1
        refine T18.hold hN hsp hR fun q23 h22 T22 K22 H22 N22 => ⟨_, _, rfl, fin (none4 (by omega)) T22 fun h26 T26 K26 => ⟨_, rfl, ?_⟩⟩
        exact tail80 N22 (fun h0 => ⟨told K26 (H22 h0).1 (H22 h0).2.2.2.1, (H22 h0).2.1, (H22 h0).2.2.1⟩) (fun h0 hl => by obtain ⟨_, _, _, _, _, _, _, hp⟩ := H22 h0; exact want K22 K26 hp hl) (hQ h26 _ _ _ _ T26)
      replace g1 := of_decide_eq_false g1
      obtain ⟨i, rfl⟩ := Int.eq_ofNat_of_zero_le (by omega : 0 ≤ i)
      have hin : 0 ≤ ((i : Nat) : Int) ∧ ((i : Nat) : Int) < (headsK j).length := ⟨by omega, by omega⟩
      refine T18.M.look ⟨_, rfl, ?_⟩
      refine vif_mk (fun g2 => ?_) (fun g2 => ?_)
      · have hpb : pageB B j i = (80, []) := by unfold pageB; rw [if_pos hin, Int.toNat_natCast, if_pos g2]
        refine T18.hold hN hsp hR fun q23 h22 T22 K22 H22 N22 => ⟨_, _, rfl, fin hpb T22 fun h26 T26 K26 => ⟨_, rfl, ?_⟩⟩
        exact tail80b N22 (fun h0 => ⟨told K26 (H22 h0).1 (H22 h0).2.2.2.1, (H22 h0).2.1, (H22 h0).2.2.1⟩) (hQ h26 _ _ _ _ T26)
      · obtain ⟨gp, _, hpr, _⟩ := pageR_some hj3 hin.1 hin.2
        have hpb : pageB B j i = (0, gp) := by unfold pageB; rw [if_pos hin, Int.toNat_natCast, if_neg (by simp [g2]), hpr]
        refine T18.hold hN hsp hR fun q23 h22 T22 K22 H22 N22 => ⟨_, _, rfl, fin hpb T22 fun h26 T26 K26 => ⟨_, rfl, ?_⟩⟩
        exact tail80 N22 (fun h0 => ⟨told K26 (H22 h0).1 (H22 h0).2.2.2.1, (H22 h0).2.1, (H22 h0).2.2.1⟩) (fun h0 hl => by obtain ⟨_, _, _, _, _, _, _, hp⟩ := H22 h0; exact want K22 K26 hp hl) (hQ h26 _ _ _ _ T26)
    refine T13.W.page hsp (fun he h18 x18 => ⟨_, _, rfl, body none h18 x18 (fun _ h => by cases h) (fun h0 => absurd h0 he) (fun _ => rfl)⟩) (fun he q19 h18 x18 H19 F19 => ⟨_, _, rfl, body q19 h18 x18 F19 (fun _ => H19) (fun h1 => absurd he h1)⟩)
  refine vif_mk (fun _ => ?_) (fun _ => ?_)
  ·
    obtain ⟨rs, es, cl, C⟩ := T13.R
    refine k71 C hlt (by omega) fun h73 rs' C73 K73 l73 => ⟨_, rfl, rfl, ?_⟩
    have T73 := T13.eng ⟨_, _, _, C73⟩ K73 (by omega) (free_sm T13.sm) T13.nl (hon_free T13.hon)
    refine k153 T73.X few hlt (by omega) fun h76 X76 K76 l76 => ⟨_, rfl, ?_⟩
    have := hQ h76 _ _ _ _ ((T73.doc X76 K76 l76).mono (Nat.le_succ N) hN)
    simpa using this
  refine vif_mk (fun _ => ?_) (fun _ => ?_)
  ·
    obtain ⟨rs, es, cl, C⟩ := T13.R
    refine k73 C fun h79 R79 K79 l79 => ⟨_, rfl, ?_⟩
    have T79 := T13.eng R79 K79 (by omega) (drop_sm T13.sm) T13.nl (hon_drop T13.hon)
    refine k154 T79.X few fun h82 X82 K82 l82 => ⟨_, rfl, ?_⟩
    have := hQ h82 _ _ _ _ ((T79.doc X82 K82 l82).mono (Nat.le_succ N) hN)
    simpa using this
  have done : Q (.bool true) h13 := hQ h13 _ _ _ _ (T13.mono (Nat.le_succ N) hN)
  refine vif_mk (fun _ => vif_mk (fun g0 => ?_) (fun _ => ⟨rfl, done⟩)) (fun _ => done)
  replace g0 := of_decide_eq_true g0
  obtain ⟨i, rfl⟩ := Int.eq_ofNat_of_zero_le g0
  refine k22 S1 S2 ⟨_, rfl, rfl, vif_mk (fun g1 => ?_) (fun _ => done)⟩
  replace g1 := of_decide_eq_true g1
  refine ⟨_, T13.W.diskAt, ?_⟩
  refine T13.W.flip hj3 (by omega) T13.n0l fun h90 ow90 fs90 W90 S90 => ⟨_, rfl, vif_mk (fun g => by simp at g) (fun _ => ?_)⟩
  have T90 := T13.disk W90 S90
  refine T90.M.look ⟨_, rfl, ?_⟩
  refine T90.M.upd rfl fun h94 M94 K94 l94 => ?_
  exact hQ h94 _ _ _ _ ((T90.map M94 K94 l94).mono (Nat.le_succ N) hN))
end
def frF (s : List UInt8) (i : Int) (l : List Ent) (held : Nat) : Pool.Fr := ⟨s, i, l, held, true, true⟩
section
variable {g0 g1 g2 : List Ent}
def lv0 : PS := newP 2
def lv1 (g0 : List Ent) : PS := ⟨[frF [97] 0 g0 1, Fr.none], 0, 1, 0, 0⟩
def lv2 (g0 g1 : List Ent) : PS := ⟨[frF [97] 0 g0 1, frF [97] 1 g1 1], 0, 2, 0, 0⟩
def lv3 (g0 g1 : List Ent) : PS := ⟨[frF [97] 0 g0 0, frF [97] 1 g1 1], 0, 2, 0, 0⟩
def lv4 (g1 g2 : List Ent) : PS := ⟨[frF [98] 0 g2 1, frF [97] 1 g1 1], 1, 3, 0, 1⟩
theorem h01 : lv0.hold (nameK 0) 0 (0, g0) = (0, g0, lv1 g0) := by kernel_rfl
theorem h12 : (lv1 g0).hold (nameK 0) 1 (0, g1) = (0, g1, lv2 g0 g1) := by kernel_rfl
theorem h22 : (lv2 g0 g1).hold (nameK 1) 0 (0, g2) = (90, [], lv2 g0 g1) := by kernel_rfl
theorem h23 : (lv2 g0 g1).free [97] 0 = (0, lv3 g0 g1) := by kernel_rfl
theorem h34 : (lv3 g0 g1).hold (nameK 1) 0 (0, g2) = (0, g2, lv4 g1 g2) := by kernel_rfl
theorem h4a : (lv4 g1 g2).at [97] 0 = none := by kernel_rfl
theorem h4b : ((lv4 g1 g2).at [98] 0).isSome = true := by kernel_rfl
theorem h4h : (lv4 g1 g2).held = 2 := by kernel_rfl
theorem h4u : (lv4 g1 g2).used = 2 := by kernel_rfl
theorem h4f : (lv4 g1 g2).free [97] 0 = (4, lv4 g1 g2) := by kernel_rfl
theorem h4d : (lv4 g1 g2).drop [97] = (0, lv4 g1 g2) := by kernel_rfl
end
section
variable {h : Heap} {Q : AV → Heap → Prop}
set_option maxHeartbeats 1000000 in
theorem k68 (L : Laid h) (hQ : ∀ h', Ext h h' → Q (.bool true) h') : AC Tryz.prog 68 [] h Q := ac68 (by
  unfold vc68
  refine k67 L fun a h2 ow dp qS qL fs sps ls W => ⟨_, rfl, ?_⟩
  refine WP.make (n := 2) W L (by omega) fun h5 p fb mb T5 x5 => ⟨_, _, rfl, ?_⟩
  refine vif_mk (fun g => by simp at g) (fun _ => vif_mk (fun g => by simp at g) (fun _ => vif_mk (fun g => by simp at g) (fun _ => ?_)))
  have hn0 : (nameK 0) = [97] := rfl
  have hs0 : sps[0]? = some (sps[0]'(by rw [W.sl]; omega)) := List.getElem?_eq_getElem _
  have hs1 : sps[1]? = some (sps[1]'(by rw [W.sl]; omega)) := List.getElem?_eq_getElem _
  generalize sps[0]'(by rw [W.sl]; omega) = s0 at hs0
  generalize sps[1]'(by rw [W.sl]; omega) = s1 at hs1
  have idx0 : ∀ {h : Heap} {K : PA → Prop}, NW h h ow dp a qS qL fs sps ls 3 3 ∨ True → True := fun _ => trivial
  refine ⟨_, T5.segs, ?_⟩
  have hlen : slLen qS = 3 := by rw [T5.now.aS.hasL.len, W.sl]
  rw [hlen]
  refine vif_mk (fun g => by simp at g) (fun _ => ⟨_, T5.segs, ?_⟩)
  obtain ⟨g0, _, p0, _, ne0, _⟩ := pageR_some (k := 0) (by omega) (n := 0) (by omega) (by rw [headsK_len (by omega)]; have : (packG (ents (cntK 0))).length = 3 := pages0; omega)
  obtain ⟨g1, _, p1, _, ne1, _⟩ := pageR_some (k := 0) (by omega) (n := 1) (by omega) (by rw [headsK_len (by omega)]; have : (packG (ents (cntK 0))).length = 3 := pages0; omega)
  obtain ⟨g2, _, p2, _, ne2, _⟩ := pageR_some (k := 1) (by omega) (n := 0) (by omega) (by rw [headsK_len (by omega)]; have : (packG (ents (cntK 1))).length = 5 := pages1; omega)
  refine T5.now.idx (by omega) (by omega) fun pp sp hsp hc => ⟨_, hc, ?_⟩
  rw [show ((0 : Int)).toNat = 0 from rfl, hs0] at hsp; cases hsp
  have e1 : (newP 2).hold (nameK 0) 0 (pageR 0 0) = (0, g0, lv1 g0) := by rw [p0]; exact h01
  refine T5.hold2 (j := 0) (n := 0) hs0 e1 fun q16 h15 T15 K15 l15 H16 _ => ⟨_, _, rfl, ?_⟩
  have T15 := T15 (by omega)
  have len16 : slLen q16 = g0.length := (H16 rfl).1.len
  refine ⟨_, T15.segs, ?_⟩
  refine T15.now.idx (by omega) (by omega) fun pp sp hsp hc => ⟨_, hc, ?_⟩
  rw [show ((0 : Int)).toNat = 0 from rfl, hs0] at hsp; cases hsp
  have e2 : (lv1 g0).hold (nameK 0) 1 (pageR 0 1) = (0, g1, lv2 g0 g1) := by rw [p1]; exact h12
  refine T15.hold2 (j := 0) (n := 1) hs0 e2 fun q24 h23' T23 K23 l23 _ _ => ⟨_, _, rfl, ?_⟩
  have T23 := T23 (by omega)
  refine ⟨_, T23.segs, ?_⟩
  refine T23.now.idx (by omega) (by omega) fun pp sp hsp hc => ⟨_, hc, ?_⟩
  rw [show ((1 : Int)).toNat = 1 from rfl, hs1] at hsp; cases hsp
  have e3 : (lv2 g0 g1).hold (nameK 1) 0 (pageR 1 0) = (90, [], lv2 g0 g1) := by rw [p2]; exact h22
  refine T23.hold2 (j := 1) (n := 0) hs1 e3 fun q32 h31 T31 K31 l31 _ _ => ⟨_, _, rfl, ?_⟩
  have T31 := T31 (by omega)
  refine T31.free2 h23 fun h35 T35 K35 l35 => ⟨_, rfl, ?_⟩
  refine ⟨_, T35.segs, ?_⟩
  refine T35.now.idx (by omega) (by omega) fun pp sp hsp hc => ⟨_, hc, ?_⟩
  rw [show ((1 : Int)).toNat = 1 from rfl, hs1] at hsp; cases hsp
  have e4 : (lv3 g0 g1).hold (nameK 1) 0 (pageR 1 0) = (0, g2, lv4 g1 g2) := by rw [p2]; exact h34
  refine T35.hold2 (j := 1) (n := 0) hs1 e4 fun q43 h42 T42 K42 l42 _ _ => ⟨_, _, rfl, ?_⟩
  have T42 := T42 (by omega)
  refine k69no (.inl (by omega)) ⟨_, _, rfl, ?_⟩
  have g0l : 0 < g0.length := List.length_pos_iff.2 ne0
  rw [len16]
  refine vif_mk (fun _ => ?_) (fun g => by simp at g)
  refine vif_mk (fun _ => ?_) (fun g => by have := of_decide_eq_false g; omega)
  refine vif_mk (fun _ => ?_) (fun g => by simp at g)
  refine vif_mk (fun _ => ?_) (fun g => by simp at g)
  refine vif_mk (fun _ => ?_) (fun g => by simp at g)
  refine vif_mk (fun _ => ?_) (fun g => by simp at g)
  refine T42.has ⟨_, rfl, ?_⟩
  rw [h4a]
  refine vif_mk (fun _ => ?_) (fun g => by simp at g)
  refine T42.has ⟨_, rfl, ?_⟩
  rw [h4b]
  refine vif_mk (fun _ => ?_) (fun g => by simp at g)
  refine T42.heldN ⟨_, rfl, ?_⟩
  rw [h4h]
  refine vif_mk (fun _ => ?_) (fun g => by simp at g)
  refine T42.usedN ⟨_, rfl, ?_⟩
  rw [h4u]
  refine vif_mk (fun _ => ?_) (fun g => by simp at g)
  refine T42.frames ⟨_, rfl, ?_⟩
  refine vif_mk (fun _ => ?_) (fun g => by simp [lv4] at g)
  refine T42.stats ⟨_, _, _, rfl, ?_⟩
  refine vif_mk (fun _ => ?_) (fun g => by simp [lv4] at g)
  refine T42.free2 h4f fun h70 T70 K70 l70 => ⟨_, rfl, ?_⟩
  refine vif_mk (fun _ => ?_) (fun g => by simp at g)
  refine T70.drop2 h4d fun h73 T73 K73 l73 => ⟨_, rfl, ?_⟩
  refine vif_mk (fun _ => ?_) (fun g => by simp at g)
  exact hQ h73 T73.now.ext)
end
def opE : Enc (Int × Int × Int) := ⟨3, fun x => [.int .i64 x.1, .int .i64 x.2.1, .int .i64 x.2.2], fun _ => rfl, by omega, fun _ => rfl⟩
section
variable {h : Heap}
theorem s14 {n1 : Int} {q2 : Option SL} {l : List (Int × Int × Int)} (L : Laid h) (H2 : HasL opE h q2 l) : AC Tryz.prog 14 [.int .i64 n1, .sl q2] h fun v _ => v = .bool true := ac14 (by
  unfold vc14
  refine k67 L fun a h4 ow dp qS qL fs sps ls W4 => ⟨_, rfl, ?_⟩
  have L4 := L.ext W4.ext
  by_cases hn : 0 ≤ n1 ∧ n1 ≤ 1024
  rotate_left
  · refine k69no (by omega) ⟨_, _, rfl, ?_⟩
    refine k79no (by omega) ⟨_, rfl, ?_⟩
    refine k68 L4 fun h14 x14 => ⟨_, rfl, ?_⟩
    refine vif_mk (fun g => by simp at g) (fun _ => vif_mk (fun g => by simp at g) (fun _ => vif_mk (fun g => by simp at g) (fun _ => vif_mk (fun g => by simp at g) (fun _ => vif_mk (fun _ => ?_) (fun g => by simp at g)))))
    refine vif_mk (fun g => by simp at g) (fun _ => ?_)
    refine ⟨fun _ _ => True, fun _ _ => 0, trivial, fun n16 h19 _ => ?_⟩
    exact vif_mk (fun _ => vif_mk (fun _ => vif_mk (fun g => by simp at g) (fun _ => rfl)) (fun _ => rfl)) (fun _ => rfl)
  obtain ⟨n, rfl⟩ := Int.eq_ofNat_of_zero_le hn.1
  have hn2 : n ≤ 1024 := by omega
  have N4 := NB.of W4 L
  refine k69 (z := fun b => b < h4.length ∨ ow b ≠ none) hn2 fun h7 C7 x7 => ⟨_, _, rfl, ?_⟩
  refine k79 hn2 fun h11 X11 x11 => ⟨_, rfl, ?_⟩
  refine k68 (L4.ext (x7.trans x11)) fun h14 x14 => ⟨_, rfl, ?_⟩
  refine vif_mk (fun g => by simp at g) (fun _ => vif_mk (fun g => by simp at g) (fun _ => vif_mk (fun g => by simp at g) (fun _ => vif_mk (fun g => by simp at g) (fun _ => vif_mk (fun g => by simp at g) (fun _ => ?_)))))
  have x15 : Ext h14 (h14 ++ [Blk.mp [] 0]) := .app _ _
  have l7 := x7.len
  have l11 := x11.len
  have l14 := x14.len
  have live4 := W4.disk.live
  have hxp := lt_of_get X11.pb
  have hp7 := lt_of_get C7.pb
  have T0 : PW h (h14 ++ [Blk.mp [] 0]) ow dp a qS qL fs sps (fun _ _ => false) (fun _ _ => false) h4.length (h4.length + 2) h4.length (h4.length + 1) (h7.length + 1) h7.length h14.length (newP n) (newP n) 0 := by
    have o4 : ∀ b, h4.length ≤ b → ow b = none := fun b hb => by
      cases hc : ow b with
      | none => rfl
      | some r => have := live4 b (by rw [hc]; simp); omega
    have hl : (h14 ++ [Blk.mp [] 0]).length = h14.length + 1 := by simp
    refine ⟨N4.grow (((x7.trans x11).trans x14).trans x15), ?_, X11.ext (x14.trans x15), MR.new, sm_new, by omega, fun b hb => ?_, fun b hb => ?_, ⟨by omega, by omega⟩, hon_new, by omega⟩
    · have C := C7.more (z := zP ow h4.length (h7.length + 1) h7.length h14.length) (fun b hb => by
        rcases hb with hb | hb | hb | hb | hb
        · exact .inl (.inl hb)
        · exact .inl (.inr hb)
        · exact .inr (by omega)
        · exact .inr (by omega)
        · exact .inr (by omega))
      exact PoolR.ext (E := entZ (zP ow h4.length (h7.length + 1) h7.length h14.length)) ⟨_, _, _, C⟩ ((x11.trans x14).trans x15)
    · have : h4.length ≤ b ∧ b < h7.length := by rcases hb with rfl | rfl | rfl <;> omega
      exact ⟨o4 b this.1, this.1, by omega, by omega, by omega, by omega⟩
    · have : h4.length ≤ b ∧ b < h14.length + 1 := by rcases hb with rfl | rfl | rfl <;> omega
      exact ⟨o4 b this.1, this.1, by omega⟩
  generalize h4.length + 2 = p at *
  generalize h4.length + 1 = mb at *
  generalize h4.length = n0 at *
  generalize h7.length + 1 = xp at *
  generalize h7.length = xb at *
  generalize h14.length = m at *
  refine ⟨fun xs h' => ∃ (k : Nat) (ow' : Roles) (fs' : List FA) (B : BadS) (P : PS), xs = [.int .i64 (k : Nat)] ∧ k ≤ 60 ∧ PW h h' ow' dp a qS qL fs' sps B B n0 p n0 mb xp xb m P P k, fun xs _ => match xs with | [.int _ k] => (60 - k).toNat | _ => 0, ⟨0, ow, fs, _, _, rfl, by omega, T0⟩, ?_⟩
  rintro n73 h76 ⟨k, ow', fs', B, P, hx, hk, T⟩
  simp only [List.cons.injEq, AV.int.injEq, true_and, and_true] at hx
  subst hx
  have HA := H2.mono T.W.ext
  refine vif_mk (fun g => ?_) (fun _ => rfl)
  replace g := of_decide_eq_true g
  rw [HA.len] at g
  refine vif_mk (fun g1 => ?_) (fun _ => rfl)
  replace g1 := of_decide_eq_true g1
  rw [wrapK_i64 (n := (k : Int) + 1) ⟨by omega, by omega⟩]
  have go : ∀ {h' : Heap} {ow' : Roles} {fs' : List FA} {B : BadS} {P : PS}, PW h h' ow' dp a qS qL fs' sps B B n0 p n0 mb xp xb m P P (k + 1) →
      (True ∧ (∃ (k' : Nat) (ow' : Roles) (fs' : List FA) (B : BadS) (P : PS), [AV.int .i64 ((k : Int) + 1)] = [.int .i64 (k' : Nat)] ∧ k' ≤ 60 ∧ PW h h' ow' dp a qS qL fs' sps B B n0 p n0 mb xp xb m P P k') ∧ ((60 : Int) - ((k : Int) + 1)).toNat < ((60 : Int) - (k : Int)).toNat) := fun T' => ⟨trivial, ⟨k + 1, _, _, _, _, by simp, by omega, T'⟩, by omega⟩
  have skip := go (T.mono (Nat.le_succ k) (by omega))
  refine vif_mk (fun _ => ?_) (fun g => by simp at g)
  refine HasL.idx (E := opE) HA (by omega) (by omega) fun p51 o ho hc => ⟨_, _, _, hc, ?_⟩
  refine vif_mk (fun _ => skip) (fun g2 => vif_mk (fun _ => skip) (fun g3 => ?_))
  replace g2 := of_decide_eq_false g2
  replace g3 := of_decide_eq_false g3
  refine k80 T (by omega) (by omega) (by omega) fun h82 ow82 fs82 B82 P82 T82 => ⟨_, rfl, vif_mk (fun g => by simp at g) (fun _ => ?_)⟩
  obtain ⟨kind, s, i⟩ := o
  simp only at g2 g3 ⊢
  obtain ⟨j, rfl⟩ := Int.eq_ofNat_of_zero_le (by omega : 0 ≤ s)
  have few := T82.ok.few
  have X82 := T82.X
  obtain ⟨rs, es, cl, C⟩ := T82.R
  refine k75 C ⟨_, rfl, ?_⟩
  refine k81 X82 few ⟨_, rfl, vif_mk (fun g => by simp at g) (fun _ => ?_)⟩
  refine k76 C ⟨_, rfl, ?_⟩
  refine k82 X82 few ⟨_, rfl, vif_mk (fun g => by simp at g) (fun _ => ?_)⟩
  refine ⟨_, X82.at (k := 0) rfl, ?_⟩
  refine k77 C ⟨_, rfl, ⟨_, X82.at (k := 0) rfl, rfl⟩, vif_mk (fun g => by simp [slLen] at g) (fun _ => ?_)⟩
  have hst : cellsAt h82 ⟨xp, 0 + 2⟩ 3 = some [.int .i64 (P82.hits : Nat), .int .i64 (P82.reads : Nat), .int .i64 (P82.losses : Nat)] := by
    rw [cells6 X82.pb (by simp)]; rfl
  refine ⟨_, _, _, hst, ?_⟩
  refine k78 C ⟨_, _, _, rfl, ⟨_, _, _, hst, rfl⟩, vif_mk (fun g => by simp at g) (fun _ => ?_)⟩
  refine k72 fun q112 h111 x111 hidx => ⟨_, rfl, trivial, trivial, trivial, trivial, hidx j _ (by omega) fun p113 hc113 => ⟨_, hc113, ?_⟩⟩
  have T111 := T82.grow x111
  obtain ⟨rs1, es1, cl1, C1⟩ := T111.R
  refine k74 C1 ⟨_, rfl, trivial, trivial, ?_⟩
  refine k72 fun q120 h119 x119 hidx2 => ⟨_, rfl, trivial, trivial, hidx2 j _ (by omega) fun p121 hc121 => ⟨_, hc121, ?_⟩⟩
  have T119 := T111.grow x119
  refine k83 T119.X few (fun hat => ⟨_, rfl, ?_⟩) fun kk hat => ⟨_, rfl, ?_⟩
  · rw [hat]
    exact vif_mk (fun g => by simp at g) (fun _ => go T119)
  · rw [hat]
    exact vif_mk (fun g => by simp at g) (fun _ => go T119))
end
end Go.Proofs.YtnglhicedhcpbaaGreatDoor
namespace Go.Proofs.YtnglhicedhcpbaaGreatDoor
open Go.Ab
open Go.ChangeShapes Go.WideShapes Go.ChangeAt Go.RowKit
set_option linter.unusedVariables false
set_option linter.unusedSimpArgs false
section
variable {H : Type} {enc : TypeId × Value → H} {W : World}
set_option maxRecDepth 100000 in
theorem op_in (n : Nat) (cs' : List Value) (y : DataW H × List MemPlace) (h : DataW.trod enc Tryz.prog W 0 (fun _ => true) true n 133 cs' = some y) (hl : cs'.length = opE.sz) : ∃ a, ∀ μ, relL μ (opE.f a) cs' := by
  obtain ⟨y0, y1, y2, n', _, _, h0, h1, h2⟩ := Deep.trod_struct3 Tryz.underlying133 h
  match cs', hl with
  | [c0, c1, c2], _ =>
    have h0 : DataW.trod enc Tryz.prog W 0 (fun _ => true) true n' 3 [c0] = some y0 := h0
    have h1 : DataW.trod enc Tryz.prog W 0 (fun _ => true) true n' 3 [c1] = some y1 := h1
    have h2 : DataW.trod enc Tryz.prog W 0 (fun _ => true) true n' 3 [c2] = some y2 := h2
    obtain ⟨s, e0, _, _⟩ := DataW.trod_int Tryz.underlying3 h0
    obtain ⟨a, e1, _, _⟩ := DataW.trod_int Tryz.underlying3 h1
    obtain ⟨b, e2, _, _⟩ := DataW.trod_int Tryz.underlying3 h2
    simp at e0 e1 e2
    subst e0 e1 e2
    exact ⟨(s, a, b), fun μ => ⟨_, _, rfl, rfl, _, _, rfl, rfl, _, _, rfl, rfl, rfl⟩⟩
set_option maxRecDepth 100000 in
theorem okc121 {v : Value} {r : Reach} {base : Nat} (hv0 : Value.okWide Tryz.prog W r base 121 v) : Cell.okWide Tryz.prog W r base 121 v := by
  unfold Value.okWide at hv0
  rw [Tryz.underlying121] at hv0
  exact hv0
end
end Go.Proofs.YtnglhicedhcpbaaGreatDoor
