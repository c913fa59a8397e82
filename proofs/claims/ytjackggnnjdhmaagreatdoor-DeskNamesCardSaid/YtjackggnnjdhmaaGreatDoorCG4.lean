import Derived.Test.YtjackggnnjdhmaaGreatDoorCG3
import Derived.MapKept
import Derived.WideKeyRuns
namespace Go.Ab
set_option linter.unusedSimpArgs false
set_option linter.unusedVariables false
open Go.MapKept
section
variable {P : Program} {μ0 : Ren} {h0 : Heap} {w0 : World} {μ : Ren} {lam : List Nat} {L : Locs} {h : Heap} {w : World} {K : KO}
theorem relM.length {μ : Ren} : ∀ {es : List (AV × AV × Nat)} {l : List MapEntry}, relM μ es l → l.length = es.length
 | [], _, r => by rw [show _ = [] from r]; rfl
 | (k, v, n) :: es, _, ⟨E, Es, h1, _, _, _, h5⟩ => by rw [h1]; simp [h5.length]
theorem relM.get {μ : Ren} : ∀ {es : List (AV × AV × Nat)} {l : List MapEntry}, relM μ es l → ∀ {i : Nat} {x : AV × AV × Nat}, es[i]? = some x → ∃ E, l[i]? = some E ∧ x.1.rel μ E.key ∧ x.2.1.rel μ E.val ∧ E.born = x.2.2
 | [], _, _, i, x, hx => by simp at hx
 | (k, v, n) :: es, _, ⟨E, Es, h1, h2, h3, h4, h5⟩, i, x, hx => by
  subst h1
  cases i with
  | zero => simp at hx; subst hx; exact ⟨E, rfl, h2, h3, h4⟩
  | succ i => simp at hx; obtain ⟨E', g1, g2⟩ := h5.get hx; exact ⟨E', by simpa using g1, g2⟩
theorem relM.of_get {μ : Ren} : ∀ {es : List (AV × AV × Nat)} {l : List MapEntry}, l.length = es.length → (∀ (i : Nat) (x : AV × AV × Nat) (E : MapEntry), es[i]? = some x → l[i]? = some E → x.1.rel μ E.key ∧ x.2.1.rel μ E.val ∧ E.born = x.2.2) → relM μ es l
 | [], l, hl, _ => by simp at hl; exact hl
 | x :: es, [], hl, _ => by simp at hl
 | (k, v, n) :: es, E :: Es, hl, hh => by
  obtain ⟨h1, h2, h3⟩ := hh 0 (k, v, n) E (by simp) (by simp)
  exact ⟨E, Es, rfl, h1, h2, h3, relM.of_get (by simpa using hl) fun i x E' hx hE => hh (i + 1) x E' (by simpa using hx) (by simpa using hE)⟩
theorem keyIs_run {kt : TypeId} {d : TypeDesc} (hd : P.underlying kt = some d) (hns : ∀ fs, d ≠ .struct fs) (hna : ∀ n e, d ≠ .array n e) {a b : AV} {va vb : Value} (ha : a.rel μ va) (hb : b.rel μ vb) {KB : Bool → Prop} (hk : keyIs P kt a b KB) :
  ∃ r, Instr.sameNow d va vb = some r ∧ KB r ∧ (r = true → va = vb) := by
 unfold keyIs at hk
 rw [hd] at hk
 split at hk
 ·rename_i heq
  cases heq
  obtain ⟨h1, hk2⟩ := need_elim hk
  obtain rfl : va = _ := ha
  obtain rfl : vb = _ := hb
  have := of_decide_eq_true h1
  subst this
  refine ⟨_, by simp only [Instr.sameNow, if_true], hk2, fun h => ?_⟩
  rw [eq_of_beq h]
 ·rename_i heq
  cases heq
  obtain rfl : va = _ := ha
  obtain rfl : vb = _ := hb
  refine ⟨_, rfl, by rw [string_beq]; exact hk, fun h => ?_⟩
  rw [string_beq] at h
  rw [eq_of_beq h]
 ·rename_i heq
  cases heq
  obtain rfl : va = _ := ha
  obtain rfl : vb = _ := hb
  refine ⟨_, rfl, hk, fun h => ?_⟩
  rw [eq_of_beq h]
 ·rename_i heq
  cases heq
  exact absurd rfl (hns _)
 ·rename_i heq
  cases heq
  exact absurd rfl (hna _ _)
 ·exact hk.elim
theorem findP_run {kt : TypeId} {d : TypeDesc} (hd : P.underlying kt = some d) (hns : ∀ fs, d ≠ .struct fs) (hna : ∀ n e, d ≠ .array n e) {k : AV} {vk : Value} (hkv : k.rel μ vk) : ∀ {es : List (AV × AV × Nat)} {ES : List MapEntry} {i : Nat} {KR : Option (Nat × AV × Nat) → Prop},
  relM μ es ES → findP P kt k es i KR →
  (Instr.findNow d vk ES i = some none ∧ KR none) ∨ ∃ (j : Nat) (k' v : AV) (n : Nat) (E : MapEntry), Instr.findNow d vk ES i = some (some (i + j, E.val)) ∧ KR (some (i + j, v, n)) ∧ es[j]? = some (k', v, n) ∧ ES[j]? = some E ∧ v.rel μ E.val ∧ E.key = vk ∧ E.born = n
 | [], ES, i, KR, r, hk => by
  obtain rfl : ES = [] := r
  exact .inl ⟨rfl, hk⟩
 | (k', v, n) :: es, _, i, KR, ⟨E, Es, h1, h2, h3, h4, h5⟩, hk => by
  subst h1
  simp only [findP] at hk
  obtain ⟨b, g1, g2, g3⟩ := keyIs_run hd hns hna hkv h2 hk
  rcases vif_elim g2 with ⟨rfl, g2⟩ | ⟨rfl, g2⟩
  ·right
   exact ⟨0, k', v, n, E, by simp [Instr.findNow, g1], g2, rfl, rfl, h3, (g3 rfl).symm, h4⟩
  ·rcases findP_run hd hns hna hkv h5 g2 with ⟨f1, f2⟩ | ⟨j, k2, v2, n2, E2, f1, f2, f3, f4, f5, f6, f7⟩
   ·left
    exact ⟨by simp only [Instr.findNow, g1]; exact f1, f2⟩
   ·right
    refine ⟨j + 1, k2, v2, n2, E2, ?_, ?_, by simpa using f3, by simpa using f4, f5, f6, f7⟩
    ·simp only [Instr.findNow, g1]; rw [f1]; congr 3; omega
    ·rw [show i + (j + 1) = i + 1 + j by omega]; exact f2
theorem keyOk1_some {kt : TypeId} {k : AV} {vk : Value} (hkv : k.rel μ vk) (h : keyOk1 P kt k = true) : ∃ d, P.underlying kt = some d ∧ IsKey d vk := by
 unfold keyOk1 at h
 split at h
 ·rename_i hu
  obtain rfl : vk = _ := hkv
  have := of_decide_eq_true h
  subst this
  exact ⟨_, hu, rfl⟩
 ·rename_i hu; obtain rfl : vk = _ := hkv; exact ⟨_, hu, trivial⟩
 ·rename_i hu; obtain rfl : vk = _ := hkv; exact ⟨_, hu, trivial⟩
 ·cases h
theorem isKey_plain {t : TypeId} {d : TypeDesc} {v : Value} (hu : P.underlying t = some d) (h : IsKey d v) : tagg P t = false := by
 cases d <;> simp_all [IsKey, tagg]
theorem isKey_bits {d : TypeDesc} {v : Value} (h : IsKey d v) (n : Nat) : Instr.sameBits n v v = true := by
 cases d <;> cases v <;> simp_all [IsKey, Instr.sameBits]
 rename_i s
 have := string_beq s.data.toList s.data.toList
 simpa using this
theorem part_plain {t : TypeId} {A : Array Value} {off : Nat} {v : Value} {d : TypeDesc} (hd : P.underlying t = some d) (ht : tagg P t = false) (hv : A.toList[off]? = some v) : (Go.part t A off).run P w = .ok v w := by
 have hv' : A[off]? = some v := by simpa using hv
 unfold Go.part
 rw [Sem.run_bind, run_isAgg hd, ht]
 simp [hv']
theorem relL_cons_at {x : AV} {xs : List AV} {A : Array Value} {off : Nat} (r : relL μ (x :: xs) (A.toList.drop off)) : ∃ y, A.toList[off]? = some y ∧ x.rel μ y ∧ A.toList.drop off = y :: A.toList.drop (off + 1) ∧ relL μ xs (A.toList.drop (off + 1)) := by
 obtain ⟨y, ys, e1, r1, r2⟩ := r
 have hy : A.toList[off]? = some y := by
  have : (A.toList.drop off)[0]? = some y := by rw [e1]; rfl
  simpa using this
 have e2 : A.toList.drop (off + 1) = ys := by rw [← List.drop_drop, e1]; rfl
 exact ⟨y, hy, r1, by rw [e2]; exact e1, by rw [e2]; exact r2⟩
theorem keysOk_check {e : Bool} {n : Nat} {A : Array Value} {g : Field → PUnit → Sem (ForInStep PUnit)}
  (hg : ∀ (f : Field) (y : Value), f.name ≠ "_" → (Go.part f.type A f.offset).run P w = .ok y w → (Instr.checkKey e (n + 1) f.type y).run P w = .ok () w → (g f PUnit.unit).run P w = .ok (ForInStep.yield PUnit.unit) w) :
  ∀ {fs : List Field} {off : Nat} {xs : List AV}, keysOk P fs off xs = true → relL μ xs (A.toList.drop off) → (forIn fs PUnit.unit g).run P w = .ok PUnit.unit w
 | [], off, [], h, r => by simp
 | [], off, _ :: _, h, r => by simp [keysOk] at h
 | f :: fs, off, [], h, r => by simp [keysOk] at h
 | f :: fs, off, x :: xs, h, r => by
  simp only [keysOk, Bool.and_eq_true, beq_iff_eq, bne_iff_ne, ne_eq] at h
  obtain ⟨h1, h2, h3, h4⟩ := h
  obtain ⟨y, hy, r1, _, r3⟩ := relL_cons_at r
  obtain ⟨d, hd, hk⟩ := keyOk1_some r1 h3
  have hp : (Go.part f.type A f.offset).run P w = .ok y w := by rw [h1]; exact part_plain hd (isKey_plain hd hk) hy
  rw [List.forIn_cons]
  simp only [Sem.run_bind, hg f y h2 hp (run_checkKey hd hk e n), Result.andThen_ok]
  exact keysOk_check hg h4 r3
theorem keysOk_bits {n : Nat} : ∀ {fs : List Field} {off : Nat} {xs : List AV} {ys : List Value}, keysOk P fs off xs = true → relL μ xs ys → ((ys.zip ys).all fun (x, y) => Instr.sameBits n x y) = true
 | [], off, [], ys, h, r => by rw [show ys = [] from r]; rfl
 | [], off, _ :: _, ys, h, r => by simp [keysOk] at h
 | f :: fs, off, [], ys, h, r => by simp [keysOk] at h
 | f :: fs, off, x :: xs, ys, h, r => by
  simp only [keysOk, Bool.and_eq_true] at h
  obtain ⟨h1, h2, h3, h4⟩ := h
  obtain ⟨y, zs, rfl, r1, r2⟩ := r
  obtain ⟨d, hd, hk⟩ := keyOk1_some r1 h3
  simp only [List.zip_cons_cons, List.all_cons, Bool.and_eq_true]
  exact ⟨isKey_bits hk n, keysOk_bits h4 r2⟩
theorem extract_rel {xs : List AV} {A : Array Value} {off n : Nat} (r : relL μ xs (A.toList.drop off)) : relL μ (xs.take n) (A.extract off (off + n)).toList := by
 rw [Array.toList_extract, List.extract_eq_take_drop, Nat.add_sub_cancel_left]
 exact r.take n
theorem part_struct {t : TypeId} {gs : Array Field} {A : Array Value} {off : Nat} {i : TypeInfo} (hd : P.underlying t = some (.struct gs)) (hi : P.info? t = some i) : (Go.part t A off).run P w = .ok (.agg (A.extract off (off + tsz P t))) w := by
 unfold Go.part
 rw [Sem.run_bind, run_isAgg hd]
 simp [tagg, hd, run_sizeOf' hi]
theorem keysOk2_check {e : Bool} {n : Nat} {A : Array Value} {g : Field → PUnit → Sem (ForInStep PUnit)}
  (hg : ∀ (f : Field) (y : Value), f.name ≠ "_" → (Go.part f.type A f.offset).run P w = .ok y w → (Instr.checkKey e (n + 1 + 1) f.type y).run P w = .ok () w → (g f PUnit.unit).run P w = .ok (ForInStep.yield PUnit.unit) w) :
  ∀ {fs : List Field} {off : Nat} {xs : List AV}, keysOk2 P fs off xs = true → relL μ xs (A.toList.drop off) → (forIn fs PUnit.unit g).run P w = .ok PUnit.unit w
 | [], off, xs, h, r => by simp
 | f :: fs, off, xs, h, r => by
  simp only [keysOk2, Bool.and_eq_true, beq_iff_eq, bne_iff_ne, ne_eq] at h
  obtain ⟨h1, h2, h⟩ := h
  rw [List.forIn_cons]
  split at h
  ·rename_i gs hu
   simp only [Bool.and_eq_true] at h
   obtain ⟨⟨h3, h4⟩, h5, h6⟩ := h
   obtain ⟨i, hi⟩ := Option.isSome_iff_exists.1 h3
   have hp := part_struct (w := w) (A := A) (off := f.offset) hu hi
   have hx : relL μ (xs.take (tsz P f.type)) ((A.extract f.offset (f.offset + tsz P f.type)).toList.drop 0) := by rw [h1, List.drop_zero]; exact extract_rel r
   have hc : (Instr.checkKey e (n + 1 + 1) f.type (.agg (A.extract f.offset (f.offset + tsz P f.type)))).run P w = .ok () w := by
    rw [Instr.checkKey]
    simp only [Sem.run_bind, run_underlying hu, Result.andThen_ok]
    rw [← Array.forIn_toList]
    have key : ∀ r : Result PUnit, r = Result.ok PUnit.unit w → (r.andThen fun _ w' => Sem.run P (pure ()) w') = Result.ok () w := by rintro r rfl; simp
    exact key _ (keysOk_check (μ := μ) (e := e) (n := n) (A := A.extract f.offset (f.offset + tsz P f.type)) (fun f y hn hp hc => by simp [hn, hp, hc]) h5 hx)
   simp only [Sem.run_bind, hg f _ h2 hp hc, Result.andThen_ok]
   exact keysOk2_check hg h6 (by rw [← List.drop_drop]; exact r.drop _)
  ·split at h
   ·rename_i x xs
    rw [Bool.and_eq_true] at h
    obtain ⟨h3, h4⟩ := h
    obtain ⟨y, hy, r1, _, r3⟩ := relL_cons_at r
    obtain ⟨d, hd, hk⟩ := keyOk1_some r1 h3
    have hp : (Go.part f.type A f.offset).run P w = .ok y w := by rw [h1]; exact part_plain hd (isKey_plain hd hk) hy
    simp only [Sem.run_bind, hg f y h2 hp (run_checkKey hd hk e (n + 1)), Result.andThen_ok]
    exact keysOk2_check hg h4 r3
   ·cases h
theorem keysOk2_bits {n : Nat} : ∀ {fs : List Field} {off : Nat} {xs : List AV} {ys : List Value}, keysOk2 P fs off xs = true → relL μ xs ys → ((ys.zip ys).all fun (x, y) => Instr.sameBits n x y) = true
 | [], off, xs, ys, h, r => by
  simp only [keysOk2, List.isEmpty_iff] at h
  subst h
  rw [show ys = [] from r]; rfl
 | f :: fs, off, xs, ys, h, r => by
  simp only [keysOk2, Bool.and_eq_true] at h
  obtain ⟨h1, h2, h⟩ := h
  split at h
  ·rename_i gs hu
   simp only [Bool.and_eq_true] at h
   obtain ⟨⟨h3, h4⟩, h5, h6⟩ := h
   have a := keysOk_bits (n := n) h5 (r.take (tsz P f.type))
   have b := keysOk2_bits (n := n) h6 (r.drop (tsz P f.type))
   rw [← List.take_append_drop (tsz P f.type) ys, List.zip_append rfl, List.all_append, a, b]; rfl
  ·split at h
   ·rename_i x xs
    rw [Bool.and_eq_true] at h
    obtain ⟨h3, h4⟩ := h
    obtain ⟨y, zs, rfl, r1, r2⟩ := r
    obtain ⟨d, hd, hk⟩ := keyOk1_some r1 h3
    simp only [List.zip_cons_cons, List.all_cons, Bool.and_eq_true]
    exact ⟨isKey_bits hk n, keysOk2_bits h4 r2⟩
   ·cases h
theorem sz1_info {e : TypeId} (h : tsz P e = 1) : ∃ i, P.info? e = some i ∧ P.cellsOf e = 1 := by
 have h' : P.cellsOf e = 1 := h
 unfold Program.cellsOf at h'
 cases hi : P.info? e with
 | none => rw [hi] at h'; simp at h'
 | some i => exact ⟨i, rfl, h⟩
theorem keysAOk_check {t : TypeId} {e : Bool} {n : Nat} {A : Array Value} {g : Nat → PUnit → Sem (ForInStep PUnit)}
  (hg : ∀ (j : Nat) (y : Value), (Go.part t A j).run P w = .ok y w → (Instr.checkKey e (n + 1) t y).run P w = .ok () w → (g j PUnit.unit).run P w = .ok (ForInStep.yield PUnit.unit) w) :
  ∀ {xs : List AV} {off : Nat}, keysAOk P t xs = true → relL μ xs (A.toList.drop off) → (forIn (List.range' off xs.length) PUnit.unit g).run P w = .ok PUnit.unit w
 | [], off, h, r => by simp
 | x :: xs, off, h, r => by
  simp only [keysAOk, Bool.and_eq_true] at h
  obtain ⟨y, hy, r1, _, r3⟩ := relL_cons_at r
  obtain ⟨d, hd, hk⟩ := keyOk1_some r1 h.1
  have hp : (Go.part t A off).run P w = .ok y w := part_plain hd (isKey_plain hd hk) hy
  rw [List.length_cons, List.range'_succ, List.forIn_cons]
  simp only [Sem.run_bind, hg off y hp (run_checkKey hd hk e n), Result.andThen_ok]
  exact keysAOk_check hg h.2 r3
theorem keysAOk_bits {n : Nat} {t : TypeId} : ∀ {xs : List AV} {ys : List Value}, keysAOk P t xs = true → relL μ xs ys → ((ys.zip ys).all fun (x, y) => Instr.sameBits n x y) = true
 | [], ys, h, r => by rw [show ys = [] from r]; rfl
 | x :: xs, ys, h, r => by
  simp only [keysAOk, Bool.and_eq_true] at h
  obtain ⟨y, zs, rfl, r1, r2⟩ := r
  obtain ⟨d, hd, hk⟩ := keyOk1_some r1 h.1
  simp only [List.zip_cons_cons, List.all_cons, Bool.and_eq_true]
  exact ⟨isKey_bits hk n, keysAOk_bits h.2 r2⟩
theorem keysASOk_check {t : TypeId} {gs : Array Field} (hu : P.underlying t = some (.struct gs)) {i : TypeInfo} (hi : P.info? t = some i) {e : Bool} {n : Nat} {A : Array Value} {g : Nat → PUnit → Sem (ForInStep PUnit)}
  (hg : ∀ (j : Nat) (y : Value), (Go.part t A (j * tsz P t)).run P w = .ok y w → (Instr.checkKey e (n + 1 + 1) t y).run P w = .ok () w → (g j PUnit.unit).run P w = .ok (ForInStep.yield PUnit.unit) w) :
  ∀ {m off : Nat} {xs : List AV}, keysASOk P gs.toList (tsz P t) m xs = true → relL μ xs (A.toList.drop (off * tsz P t)) → (forIn (List.range' off m) PUnit.unit g).run P w = .ok PUnit.unit w
 | 0, off, xs, h, r => by simp
 | m + 1, off, xs, h, r => by
  simp only [keysASOk, Bool.and_eq_true] at h
  have hp := part_struct (w := w) (A := A) (off := off * tsz P t) hu hi
  have hx : relL μ (xs.take (tsz P t)) ((A.extract (off * tsz P t) (off * tsz P t + tsz P t)).toList.drop 0) := by rw [List.drop_zero]; exact extract_rel r
  have hc : (Instr.checkKey e (n + 1 + 1) t (.agg (A.extract (off * tsz P t) (off * tsz P t + tsz P t)))).run P w = .ok () w := by
   rw [Instr.checkKey]
   simp only [Sem.run_bind, run_underlying hu, Result.andThen_ok]
   rw [← Array.forIn_toList]
   have key : ∀ r : Result PUnit, r = Result.ok PUnit.unit w → (r.andThen fun _ w' => Sem.run P (pure ()) w') = Result.ok () w := by rintro r rfl; simp
   exact key _ (keysOk_check (μ := μ) (e := e) (n := n) (A := A.extract (off * tsz P t) (off * tsz P t + tsz P t)) (fun f y hn hp hc => by simp [hn, hp, hc]) h.1 hx)
  rw [List.range'_succ, List.forIn_cons]
  simp only [Sem.run_bind, hg off _ hp hc, Result.andThen_ok]
  exact keysASOk_check hu hi hg h.2 (by rw [Nat.succ_mul, ← List.drop_drop]; exact r.drop _)
theorem keysASOk_bits {n s : Nat} {gs : List Field} : ∀ {m : Nat} {xs : List AV} {ys : List Value}, keysASOk P gs s m xs = true → relL μ xs ys → ((ys.zip ys).all fun (x, y) => Instr.sameBits n x y) = true
 | 0, xs, ys, h, r => by
  simp only [keysASOk, List.isEmpty_iff] at h
  subst h
  rw [show ys = [] from r]; rfl
 | m + 1, xs, ys, h, r => by
  simp only [keysASOk, Bool.and_eq_true] at h
  have a := keysOk_bits (n := n) h.1 (r.take s)
  have b := keysASOk_bits (n := n) h.2 (r.drop s)
  rw [← List.take_append_drop s ys, List.zip_append rfl, List.all_append, a, b]; rfl
theorem keyOk_some {kt : TypeId} {k : AV} {vk : Value} (hkv : k.rel μ vk) (h : keyOk P kt k = true) : (∀ e, (Instr.checkKey e 10000 kt vk).run P w = .ok () w) ∧ Instr.sameBits 10000 vk vk = true := by
 have plain : keyOk1 P kt k = true → (∀ e, (Instr.checkKey e 10000 kt vk).run P w = .ok () w) ∧ Instr.sameBits 10000 vk vk = true := by
  intro h1
  obtain ⟨d, hd, hk⟩ := keyOk1_some hkv h1
  exact ⟨fun e => run_checkKey hd hk e 9999, isKey_bits hk _⟩
 unfold keyOk at h
 split at h
 ·rename_i hu; exact plain (by simp only [keyOk1, hu]; exact h)
 ·rename_i hu; exact plain (by simp only [keyOk1, hu])
 ·rename_i hu; exact plain (by simp only [keyOk1, hu])
 ·rename_i fs xs hu
  obtain ⟨A, rfl, hA⟩ := hkv
  refine ⟨fun e => ?_, ?_⟩
  ·show (Instr.checkKey e (9998 + 1 + 1) kt (.agg A)).run P w = .ok () w
   rw [Instr.checkKey]
   simp only [Sem.run_bind, run_underlying hu, Result.andThen_ok]
   rw [← Array.forIn_toList]
   have key : ∀ r : Result PUnit, r = Result.ok PUnit.unit w → (r.andThen fun _ w' => Sem.run P (pure ()) w') = Result.ok () w := by rintro r rfl; simp
   exact key _ (keysOk2_check (μ := μ) (e := e) (n := 9997) (A := A) (fun f y hn hp hc => by simp [hn, hp, hc]) h (by rw [List.drop_zero]; exact hA))
  ·show Instr.sameBits (9999 + 1) (.agg A) (.agg A) = true
   simp only [Instr.sameBits, beq_self_eq_true, Bool.true_and]
   exact keysOk2_bits h hA
 ·rename_i n e xs hu
  obtain ⟨A, rfl, hA⟩ := hkv
  split at h
  ·rename_i hh
   simp only [Bool.and_eq_true, beq_iff_eq] at hh
   obtain ⟨h1, h2⟩ := hh
   have h3 := h
   refine ⟨fun e0 => ?_, ?_⟩
   ·show (Instr.checkKey e0 (9998 + 1 + 1) kt (.agg A)).run P w = .ok () w
    rw [Instr.checkKey]
    simp only [Sem.run_bind, run_underlying hu, Result.andThen_ok]
    simp only [Std.Legacy.Range.forIn_eq_forIn_range', Std.Legacy.Range.size, Nat.sub_zero, Nat.add_one_sub_one, Nat.div_one]
    have key : ∀ r : Result PUnit, r = Result.ok PUnit.unit w → (r.andThen fun _ w' => Sem.run P (pure ()) w') = Result.ok () w := by rintro r rfl; simp
    rw [← h1]
    obtain ⟨i, hi, hs⟩ := sz1_info h2
    exact key _ (keysAOk_check (μ := μ) (e := e0) (n := 9998) (A := A) (off := 0) (fun j y hp hc => by simp [run_sizeOf w hi, hs, hp, hc]) h3 (by rw [List.drop_zero]; exact hA))
   ·show Instr.sameBits (9999 + 1) (.agg A) (.agg A) = true
    simp only [Instr.sameBits, beq_self_eq_true, Bool.true_and]
    exact keysAOk_bits h3 hA
  ·split at h
   ·rename_i gs hue
    rw [Bool.and_eq_true] at h
    obtain ⟨i, hi⟩ := Option.isSome_iff_exists.1 h.1
    have hs : P.cellsOf e = tsz P e := rfl
    refine ⟨fun e0 => ?_, ?_⟩
    ·show (Instr.checkKey e0 (9998 + 1 + 1) kt (.agg A)).run P w = .ok () w
     rw [Instr.checkKey]
     simp only [Sem.run_bind, run_underlying hu, Result.andThen_ok]
     simp only [Std.Legacy.Range.forIn_eq_forIn_range', Std.Legacy.Range.size, Nat.sub_zero, Nat.add_one_sub_one, Nat.div_one]
     have key : ∀ r : Result PUnit, r = Result.ok PUnit.unit w → (r.andThen fun _ w' => Sem.run P (pure ()) w') = Result.ok () w := by rintro r rfl; simp
     exact key _ (keysASOk_check (μ := μ) hue hi (e := e0) (n := 9997) (A := A) (off := 0) (fun j y hp hc => by simp [run_sizeOf w hi, hs, hp, hc]) h.2 (by rw [Nat.zero_mul, List.drop_zero]; exact hA))
    ·show Instr.sameBits (9999 + 1) (.agg A) (.agg A) = true
     simp only [Instr.sameBits, beq_self_eq_true, Bool.true_and]
     exact keysASOk_bits h.2 hA
   ·cases h
 ·cases h
theorem keyIs1_run {t : TypeId} {x y : AV} {v u : Value} {b : Bool} (h : keyIs1 P t x y = some b) (hx : x.rel μ v) (hy : y.rel μ u) (n : Nat) : ∃ d, P.underlying t = some d ∧ tagg P t = false ∧ (Op.equalIn (n + 1) t v u).run P w = .ok b w ∧ (b = true → v = u) := by
 unfold keyIs1 at h
 split at h
 ·rename_i hu
  split at h
  ·rename_i hk
   have := of_decide_eq_true hk
   subst this
   obtain rfl : v = _ := hx
   obtain rfl : u = _ := hy
   cases h
   refine ⟨_, hu, by simp [tagg, hu], ?_, fun h => by rw [eq_of_beq h]⟩
   unfold Op.equalIn
   rw [Sem.run_bind, run_underlying hu]
   simp
  ·cases h
 ·rename_i hu
  obtain rfl : v = _ := hx
  obtain rfl : u = _ := hy
  cases h
  refine ⟨_, hu, by simp [tagg, hu], ?_, fun h => by rw [eq_of_beq h]⟩
  unfold Op.equalIn
  rw [Sem.run_bind, run_underlying hu]
  simp [string_beq]
 ·rename_i hu
  obtain rfl : v = _ := hx
  obtain rfl : u = _ := hy
  cases h
  refine ⟨_, hu, by simp [tagg, hu], ?_, fun h => by rw [eq_of_beq h]⟩
  unfold Op.equalIn
  rw [Sem.run_bind, run_underlying hu]
  simp
 ·cases h
theorem keysIs_run {n : Nat} {A B : Array Value} : ∀ {fs : List Field} {off : Nat} {xs ys : List AV} {b : Bool}, keysIs P fs off xs ys = some b → relL μ xs (A.toList.drop off) → relL μ ys (B.toList.drop off) →
  (Op.eqFields (n + 1) A B fs).run P w = .ok b w ∧ (b = true → A.toList.drop off = B.toList.drop off)
 | [], off, [], [], b, h, r, s => by
  simp only [keysIs, Option.some.injEq] at h
  subst h
  exact ⟨by simp [Op.eqFields], fun _ => by rw [show A.toList.drop off = [] from r, show B.toList.drop off = [] from s]⟩
 | [], off, _ :: _, _, b, h, r, s => by simp [keysIs] at h
 | [], off, [], _ :: _, b, h, r, s => by simp [keysIs] at h
 | f :: fs, off, [], _, b, h, r, s => by simp [keysIs] at h
 | f :: fs, off, _ :: _, [], b, h, r, s => by simp [keysIs] at h
 | f :: fs, off, x :: xs, y :: ys, b, h, r, s => by
  simp only [keysIs] at h
  split at h
  ·rename_i b1 b2 g1 g2 g3
   cases h
   simp only [Bool.and_eq_true, beq_iff_eq, bne_iff_ne, ne_eq] at g1
   obtain ⟨v, hv, r1, r2, r3⟩ := relL_cons_at r
   obtain ⟨u, hu, s1, s2, s3⟩ := relL_cons_at s
   obtain ⟨d, hd, ht, he, hb⟩ := keyIs1_run (w := w) g2 r1 s1 n
   obtain ⟨hr, hrb⟩ := keysIs_run g3 r3 s3
   have p1 : (Go.part f.type A f.offset).run P w = .ok v w := by rw [g1.1]; exact part_plain hd ht hv
   have p2 : (Go.part f.type B f.offset).run P w = .ok u w := by rw [g1.1]; exact part_plain hd ht hu
   refine ⟨?_, fun hbb => ?_⟩
   ·simp only [Op.eqFields]
    rw [if_pos (by simpa using g1.2)]
    simp only [Sem.run_bind, p1, p2, he, Result.andThen_ok]
    cases b1
    ·simp
    ·simpa using hr
   ·simp only [Bool.and_eq_true] at hbb
    rw [r2, s2, hb hbb.1, hrb hbb.2]
  ·cases h
theorem keysIs2_run {n : Nat} {A B : Array Value} : ∀ {fs : List Field} {off : Nat} {xs ys : List AV} {b : Bool}, keysIs2 P fs off xs ys = some b → relL μ xs (A.toList.drop off) → relL μ ys (B.toList.drop off) →
  (Op.eqFields (n + 1 + 1) A B fs).run P w = .ok b w ∧ (b = true → A.toList.drop off = B.toList.drop off)
 | [], off, [], [], b, h, r, s => by
  simp only [keysIs2, Option.some.injEq] at h
  subst h
  exact ⟨by simp [Op.eqFields], fun _ => by rw [show A.toList.drop off = [] from r, show B.toList.drop off = [] from s]⟩
 | [], off, _ :: _, _, b, h, r, s => by simp [keysIs2] at h
 | [], off, [], _ :: _, b, h, r, s => by simp [keysIs2] at h
 | f :: fs, off, xs, ys, b, h, r, s => by
  simp only [keysIs2] at h
  split at h
  ·cases h
  rename_i g1
  simp only [Bool.and_eq_true, beq_iff_eq, bne_iff_ne, ne_eq] at g1
  split at h
  ·rename_i gs hu
   split at h
   ·cases h
   rename_i g2
   simp only [Bool.or_eq_false_iff, Bool.not_eq_false', Bool.and_eq_true] at g2
   obtain ⟨g2, g3, g4, g5⟩ := g2
   split at h
   ·rename_i b1 b2 k1 k2
    cases h
    obtain ⟨i, hi⟩ : ∃ i, P.info? f.type = some i := by
     cases hh : P.info? f.type with
     | none => rw [hh] at g3; simp at g3
     | some i => exact ⟨i, rfl⟩
    have p1 := part_struct (w := w) (A := A) (off := f.offset) hu hi
    have p2 := part_struct (w := w) (A := B) (off := f.offset) hu hi
    have x1 : relL μ (xs.take (tsz P f.type)) ((A.extract f.offset (f.offset + tsz P f.type)).toList.drop 0) := by rw [g1.1, List.drop_zero]; exact extract_rel r
    have x2 : relL μ (ys.take (tsz P f.type)) ((B.extract f.offset (f.offset + tsz P f.type)).toList.drop 0) := by rw [g1.1, List.drop_zero]; exact extract_rel s
    have hf : P.fieldsOf f.type = gs := by simp [Program.fieldsOf, hu]
    obtain ⟨e1, e2⟩ := keysIs_run (w := w) (n := n) k1 x1 x2
    obtain ⟨e3, e4⟩ := keysIs2_run (A := A) (B := B) k2 (by rw [← List.drop_drop]; exact r.drop _) (by rw [← List.drop_drop]; exact s.drop _)
    have he : (Op.equalIn (n + 1 + 1) f.type (.agg (A.extract f.offset (f.offset + tsz P f.type))) (.agg (B.extract f.offset (f.offset + tsz P f.type)))).run P w = .ok b1 w := by
     rw [run_equalIn_struct w (n + 1) f.type _ _ (by rw [hf]; exact hu) g2, hf]
     exact e1
    refine ⟨?_, fun hbb => ?_⟩
    ·simp only [Op.eqFields]
     rw [if_pos (by simpa using g1.2)]
     simp only [Sem.run_bind, p1, p2, he, Result.andThen_ok]
     cases b1
     ·simp
     ·simpa using e3
    ·simp only [Bool.and_eq_true] at hbb
     have t1 := e2 hbb.1
     have t2 := e4 hbb.2
     rw [List.drop_zero, List.drop_zero, Array.toList_extract, Array.toList_extract, List.extract_eq_take_drop, List.extract_eq_take_drop, Nat.add_sub_cancel_left, g1.1] at t1
     rw [← List.take_append_drop (tsz P f.type) (A.toList.drop off), ← List.take_append_drop (tsz P f.type) (B.toList.drop off), t1, List.drop_drop, List.drop_drop, t2]
   ·cases h
  ·split at h
   ·rename_i x xs y ys
    split at h
    ·rename_i b1 b2 g2 g3
     cases h
     obtain ⟨v, hv, r1, r2, r3⟩ := relL_cons_at r
     obtain ⟨u, hu, s1, s2, s3⟩ := relL_cons_at s
     obtain ⟨d, hd, ht, he, hb⟩ := keyIs1_run (w := w) g2 r1 s1 (n + 1)
     obtain ⟨hr, hrb⟩ := keysIs2_run g3 r3 s3
     have p1 : (Go.part f.type A f.offset).run P w = .ok v w := by rw [g1.1]; exact part_plain hd ht hv
     have p2 : (Go.part f.type B f.offset).run P w = .ok u w := by rw [g1.1]; exact part_plain hd ht hu
     refine ⟨?_, fun hbb => ?_⟩
     ·simp only [Op.eqFields]
      rw [if_pos (by simpa using g1.2)]
      simp only [Sem.run_bind, p1, p2, he, Result.andThen_ok]
      cases b1
      ·simp
      ·simpa using hr
     ·simp only [Bool.and_eq_true] at hbb
      rw [r2, s2, hb hbb.1, hrb hbb.2]
    ·cases h
   ·cases h
theorem keyS_run {kt : TypeId} {fs : Array Field} {xs ys : List AV} {A B : Array Value} {b : Bool} (hu : P.underlying kt = some (.struct fs)) (h : keyS P kt fs xs ys = some b) (r : relL μ xs A.toList) (s : relL μ ys B.toList) :
  (Op.equal kt (.agg A) (.agg B)).run P w = .ok b w ∧ (b = true → A = B) := by
 unfold keyS at h
 split at h
 ·cases h
 ·rename_i hs
  have hf : P.fieldsOf kt = fs := by simp [Program.fieldsOf, hu]
  obtain ⟨h1, h2⟩ := keysIs2_run (w := w) (n := 9997) (A := A) (B := B) h (by simpa using r) (by simpa using s)
  refine ⟨?_, fun hb => ?_⟩
  ·show (Op.equalIn (9999 + 1) kt (.agg A) (.agg B)).run P w = .ok b w
   rw [run_equalIn_struct w 9999 kt A B (by rw [hf]; exact hu) hs, hf]
   exact h1
  ·have := h2 hb
   simp only [List.drop_zero] at this
   exact Array.toList_inj.1 this
theorem keysA_run {n : Nat} {t : TypeId} (ht : tsz P t = 1) {A B : Array Value} : ∀ {xs ys : List AV} {off : Nat} {b : Bool}, keysA P t xs ys = some b → relL μ xs (A.toList.drop off) → relL μ ys (B.toList.drop off) →
  (Op.eqItems (n + 1) t (P.cellsOf t) A B (List.range' off xs.length)).run P w = .ok b w ∧ (b = true → A.toList.drop off = B.toList.drop off)
 | [], [], off, b, h, r, s => by
  simp only [keysA, Option.some.injEq] at h
  subst h
  exact ⟨by simp [Op.eqItems], fun _ => by rw [show A.toList.drop off = [] from r, show B.toList.drop off = [] from s]⟩
 | [], _ :: _, off, b, h, r, s => by simp [keysA] at h
 | _ :: _, [], off, b, h, r, s => by simp [keysA] at h
 | x :: xs, y :: ys, off, b, h, r, s => by
  simp only [keysA] at h
  split at h
  ·rename_i b1 b2 g2 g3
   cases h
   obtain ⟨v, hv, r1, r2, r3⟩ := relL_cons_at r
   obtain ⟨u, hu, s1, s2, s3⟩ := relL_cons_at s
   obtain ⟨d, hd, hta, he, hb⟩ := keyIs1_run (w := w) g2 r1 s1 n
   obtain ⟨hr, hrb⟩ := keysA_run ht g3 r3 s3
   have hc : P.cellsOf t = 1 := ht
   have p1 : (Go.part t A off).run P w = .ok v w := part_plain hd hta hv
   have p2 : (Go.part t B off).run P w = .ok u w := part_plain hd hta hu
   refine ⟨?_, fun hbb => ?_⟩
   ·rw [List.length_cons, List.range'_succ]
    simp only [Op.eqItems, hc, Nat.mul_one, Sem.run_bind, p1, p2, he, Result.andThen_ok]
    rw [hc] at hr
    cases b1
    ·simp
    ·simpa using hr
   ·simp only [Bool.and_eq_true] at hbb
    rw [r2, s2, hb hbb.1, hrb hbb.2]
  ·cases h
theorem keysAS_run {n : Nat} {t : TypeId} {gs : Array Field} (hu : P.underlying t = some (.struct gs)) {i : TypeInfo} (hi : P.info? t = some i) (hs : P.stoodInHeld t = false) {A B : Array Value} : ∀ {m off : Nat} {xs ys : List AV} {b : Bool}, keysAS P gs.toList (tsz P t) m xs ys = some b → relL μ xs (A.toList.drop (off * tsz P t)) → relL μ ys (B.toList.drop (off * tsz P t)) →
  (Op.eqItems (n + 1 + 1) t (P.cellsOf t) A B (List.range' off m)).run P w = .ok b w ∧ (b = true → A.toList.drop (off * tsz P t) = B.toList.drop (off * tsz P t))
 | 0, off, [], [], b, h, r, s => by
  simp only [keysAS, Option.some.injEq] at h
  subst h
  exact ⟨by simp [Op.eqItems], fun _ => by rw [show A.toList.drop (off * tsz P t) = [] from r, show B.toList.drop (off * tsz P t) = [] from s]⟩
 | 0, off, _ :: _, _, b, h, r, s => by simp [keysAS] at h
 | 0, off, [], _ :: _, b, h, r, s => by simp [keysAS] at h
 | m + 1, off, xs, ys, b, h, r, s => by
  simp only [keysAS] at h
  split at h
  ·rename_i b1 b2 k1 k2
   cases h
   have p1 := part_struct (w := w) (A := A) (off := off * tsz P t) hu hi
   have p2 := part_struct (w := w) (A := B) (off := off * tsz P t) hu hi
   have x1 : relL μ (xs.take (tsz P t)) ((A.extract (off * tsz P t) (off * tsz P t + tsz P t)).toList.drop 0) := by rw [List.drop_zero]; exact extract_rel r
   have x2 : relL μ (ys.take (tsz P t)) ((B.extract (off * tsz P t) (off * tsz P t + tsz P t)).toList.drop 0) := by rw [List.drop_zero]; exact extract_rel s
   have hf : P.fieldsOf t = gs := by simp [Program.fieldsOf, hu]
   obtain ⟨e1, e2⟩ := keysIs_run (w := w) (n := n) k1 x1 x2
   obtain ⟨e3, e4⟩ := keysAS_run (n := n) hu hi hs (A := A) (B := B) (off := off + 1) k2 (by rw [Nat.succ_mul, ← List.drop_drop]; exact r.drop _) (by rw [Nat.succ_mul, ← List.drop_drop]; exact s.drop _)
   have he : (Op.equalIn (n + 1 + 1) t (.agg (A.extract (off * tsz P t) (off * tsz P t + tsz P t))) (.agg (B.extract (off * tsz P t) (off * tsz P t + tsz P t)))).run P w = .ok b1 w := by
    rw [run_equalIn_struct w (n + 1) t _ _ (by rw [hf]; exact hu) hs, hf]
    exact e1
   refine ⟨?_, fun hbb => ?_⟩
   ·rw [List.range'_succ]
    have hc : P.cellsOf t = tsz P t := rfl
    simp only [Op.eqItems, hc, Sem.run_bind, p1, p2, he, Result.andThen_ok]
    rw [hc] at e3
    cases b1
    ·simp
    ·simpa using e3
   ·simp only [Bool.and_eq_true] at hbb
    have t1 := e2 hbb.1
    have t2 := e4 hbb.2
    rw [List.drop_zero, List.drop_zero, Array.toList_extract, Array.toList_extract, List.extract_eq_take_drop, List.extract_eq_take_drop, Nat.add_sub_cancel_left] at t1
    rw [Nat.succ_mul] at t2
    rw [← List.take_append_drop (tsz P t) (A.toList.drop (off * tsz P t)), ← List.take_append_drop (tsz P t) (B.toList.drop (off * tsz P t)), t1, List.drop_drop, List.drop_drop, t2]
  ·cases h
theorem keyA_run {kt t : TypeId} {n : Nat} {xs ys : List AV} {A B : Array Value} {b : Bool} (hu : P.underlying kt = some (.array n t)) (h : keyA P n t xs ys = some b) (r : relL μ xs A.toList) (s : relL μ ys B.toList) :
  (Op.equal kt (.agg A) (.agg B)).run P w = .ok b w ∧ (b = true → A = B) := by
 unfold keyA at h
 split at h
 ·rename_i hs
  simp only [Bool.and_eq_true, beq_iff_eq] at hs
  obtain ⟨i, hi, hc⟩ := sz1_info hs.2.2
  obtain ⟨h1, h2⟩ := keysA_run (w := w) (n := 9998) (A := A) (B := B) (off := 0) hs.2.2 h (by simpa using r) (by simpa using s)
  refine ⟨?_, fun hb => ?_⟩
  ·show (Op.equalIn (9999 + 1) kt (.agg A) (.agg B)).run P w = .ok b w
   rw [run_equalIn_array w 9999 A B hu hi, List.range_eq_range', ← hs.1]
   exact h1
  ·have := h2 hb
   simp only [List.drop_zero] at this
   exact Array.toList_inj.1 this
 ·split at h
  ·rename_i gs hue
   split at h
   ·cases h
   ·rename_i hh
    rw [Bool.or_eq_false_iff] at hh
    obtain ⟨i, hi⟩ : ∃ i, P.info? t = some i := by
     cases hq : P.info? t with
     | none => rw [hq] at hh; simp at hh
     | some i => exact ⟨i, rfl⟩
    obtain ⟨h1, h2⟩ := keysAS_run (w := w) (n := 9997) hue hi hh.1 (A := A) (B := B) (off := 0) h (by simpa using r) (by simpa using s)
    refine ⟨?_, fun hb => ?_⟩
    ·show (Op.equalIn (9999 + 1) kt (.agg A) (.agg B)).run P w = .ok b w
     rw [run_equalIn_array w 9999 A B hu hi, List.range_eq_range']
     exact h1
    ·have := h2 hb
     simp only [Nat.zero_mul, List.drop_zero] at this
     exact Array.toList_inj.1 this
  ·cases h
theorem keyIs_ask {kt : TypeId} (hu : (match P.underlying kt with | some (.array _ _) | some (.struct _) => true | _ => false) = true) {a b : AV} {va vb : Value} (ha : a.rel μ va) (hb : b.rel μ vb) {KB : Bool → Prop} (hk : keyIs P kt a b KB) :
  ∃ r, (Op.equal kt va vb).run P w = .ok r w ∧ KB r ∧ (r = true → va = vb) := by
 unfold keyIs at hk
 split at hk
 ·rename_i heq; rw [heq] at hu; cases hu
 ·rename_i heq; rw [heq] at hu; cases hu
 ·rename_i heq; rw [heq] at hu; cases hu
 ·rename_i heq
  split at hk
  ·rename_i b hb'
   obtain ⟨A, rfl, hA⟩ := ha
   obtain ⟨B, rfl, hB⟩ := hb
   obtain ⟨g1, g3⟩ := keyS_run (w := w) heq hb' hA hB
   exact ⟨b, g1, hk, fun h => by rw [g3 h]⟩
  ·exact hk.elim
 ·rename_i heq
  split at hk
  ·rename_i b hb'
   obtain ⟨A, rfl, hA⟩ := ha
   obtain ⟨B, rfl, hB⟩ := hb
   obtain ⟨g1, g3⟩ := keyA_run (w := w) heq hb' hA hB
   exact ⟨b, g1, hk, fun h => by rw [g3 h]⟩
  ·exact hk.elim
 ·exact hk.elim
theorem findP_ask {kt : TypeId} (hu : (match P.underlying kt with | some (.array _ _) | some (.struct _) => true | _ => false) = true) {k : AV} {vk : Value} (hkv : k.rel μ vk) : ∀ {es : List (AV × AV × Nat)} {ES : List MapEntry} {i : Nat} {KR : Option (Nat × AV × Nat) → Prop},
  relM μ es ES → findP P kt k es i KR →
  ((Instr.findAsking kt vk ES i).run P w = .ok none w ∧ KR none) ∨ ∃ (j : Nat) (k' v : AV) (n : Nat) (E : MapEntry), (Instr.findAsking kt vk ES i).run P w = .ok (some (i + j, E.val)) w ∧ KR (some (i + j, v, n)) ∧ es[j]? = some (k', v, n) ∧ ES[j]? = some E ∧ v.rel μ E.val ∧ E.key = vk ∧ E.born = n
 | [], ES, i, KR, r, hk => by
  obtain rfl : ES = [] := r
  exact .inl ⟨by simp [Instr.findAsking], hk⟩
 | (k', v, n) :: es, _, i, KR, ⟨E, Es, h1, h2, h3, h4, h5⟩, hk => by
  subst h1
  simp only [findP] at hk
  obtain ⟨r, g1, g2, g3⟩ := keyIs_ask (w := w) hu hkv h2 hk
  rcases vif_elim g2 with ⟨rfl, g2⟩ | ⟨rfl, g2⟩
  ·right
   exact ⟨0, _, v, n, E, by simp [Instr.findAsking, g1], g2, rfl, rfl, h3, (g3 rfl).symm, h4⟩
  ·rcases findP_ask hu hkv h5 g2 with ⟨f1, f2⟩ | ⟨j, k2, v2, n2, E2, f1, f2, f3, f4, f5, f6, f7⟩
   ·left
    exact ⟨by simp only [Instr.findAsking, Sem.run_bind, g1, Result.andThen_ok]; simpa using f1, f2⟩
   ·right
    refine ⟨j + 1, k2, v2, n2, E2, ?_, ?_, by simpa using f3, by simpa using f4, f5, f6, f7⟩
    ·simp only [Instr.findAsking, Sem.run_bind, g1, Result.andThen_ok]
     rw [show i + (j + 1) = i + 1 + j by omega]
     simpa using f1
    ·rw [show i + (j + 1) = i + 1 + j by omega]; exact f2
theorem keyOk_type {kt : TypeId} {k : AV} (h : keyOk P kt k = true) : ∃ d, P.underlying kt = some d := by
 unfold keyOk at h
 cases hu : P.underlying kt with
 | none => rw [hu] at h; simp at h
 | some d => exact ⟨d, rfl⟩
theorem findP_key {kt : TypeId} {k : AV} {vk : Value} (hkv : k.rel μ vk) (hok : keyOk P kt k = true) {es : List (AV × AV × Nat)} {ES : List MapEntry} {KR : Option (Nat × AV × Nat) → Prop} (r : relM μ es ES) (hk : findP P kt k es 0 KR) :
  ((Instr.findKey kt vk ES).run P w = .ok none w ∧ KR none) ∨ ∃ (j : Nat) (k' v : AV) (n : Nat) (E : MapEntry), (Instr.findKey kt vk ES).run P w = .ok (some (j, E.val)) w ∧ KR (some (j, v, n)) ∧ es[j]? = some (k', v, n) ∧ ES[j]? = some E ∧ v.rel μ E.val ∧ E.key = vk ∧ E.born = n := by
 obtain ⟨d, hd⟩ := keyOk_type hok
 by_cases hs : (match P.underlying kt with | some (.array _ _) | some (.struct _) => true | _ => false) = true
 ·rw [run_findKey_eq w hs]
  have := findP_ask (w := w) hs hkv r hk
  simpa only [Nat.zero_add] using this
 ·have hns : ∀ fs, d ≠ .struct fs := fun fs h => hs (by rw [hd, h])
  have hna : ∀ n e, d ≠ .array n e := fun n e h => hs (by rw [hd, h])
  rcases findP_run hd hns hna hkv r hk with ⟨g1, g2⟩ | ⟨j, k', v, n, E, g1, g2, g3⟩
  ·exact .inl ⟨MapKept.run_findKey hd g1, g2⟩
  ·rw [Nat.zero_add] at g1 g2
   exact .inr ⟨j, k', v, n, E, MapKept.run_findKey hd g1, g2, g3⟩
theorem map_block (R : Rel μ0 h0 w0 μ lam L h w) {b cl : Nat} {es : List (AV × AV × Nat)} (hb : h[b]? = some (.mp es cl)) {v : Value} (hv : AV.rel μ (.map (some b)) v) :
  ∃ (e : ME) (ES : Array MapEntry), μ[b]? = some e ∧ v = .map (some e.r) ∧ w.heap[e.r]? = some (.map ES cl) ∧ relM μ es ES.toList := by
 obtain ⟨e, he, hv⟩ := hv
 obtain ⟨ES, h1, h2⟩ := R.heap.blk b _ e hb he
 exact ⟨e, ES, he, hv, h1, h2⟩
theorem out_lookup (R : Rel μ0 h0 w0 μ lam L h w) {t kt et : TypeId} (ht : P.underlying t = some (.map kt et)) {m : Option Nat} {vm : Value} (hm : AV.rel μ (.map m) vm) {k : AV} {vk : Value} (hkv : k.rel μ vk) {ok : Bool}
  (hk : PLookup P kt et m k ok h fun v => K (.val v) L h) : Out P μ0 h0 w0 μ lam w (Instr.lookup t vm vk ok) K := by
 unfold PLookup at hk
 split at hk
 ·rename_i es z hes hz
  obtain ⟨h1, hk⟩ := need_elim hk
  obtain ⟨hchk, hbits⟩ := keyOk_some (w := w) hkv h1
  obtain ⟨i, zv, hi, hiz, hzz⟩ := tz_info hz
  have hzr : z.rel μ zv := ofV_rel μ 4 zv z hzz
  have hzero : (zeroValue et).run P w = .ok zv w := by simp [zeroValue, typeInfo, hi, hiz]
  obtain ⟨ES, hrel, hget⟩ : ∃ ES : Array MapEntry, relM μ es ES.toList ∧ ∀ (r' : Option (Nat × Value)) (v : Value), (Instr.findKey kt vk ES.toList).run P w = .ok r' w →
    (v = match r' with | some (_, v) => (if ok then .tuple #[v, .bool true] else v) | none => (if ok then .tuple #[zv, .bool false] else zv)) → (Instr.lookup t vm vk ok).run P w = .ok v w := by
   cases m with
   | none =>
    obtain rfl : vm = _ := hm
    simp only [mapEs, Option.some.injEq] at hes
    subst hes
    refine ⟨#[], rfl, fun r' v hf hv => ?_⟩
    unfold Instr.lookup
    simp only [Sem.run_bind, run_underlying ht, Result.andThen_ok, Sem.run_pure, hchk, hf]
    cases r' with
    | none => simp [hzero, hv]
    | some p => simp [hv]
   | some b =>
    simp only [mapEs] at hes
    split at hes
    ·rename_i es' cl hb
     cases hes
     obtain ⟨e, ES, he, rfl, h2, h3⟩ := map_block R hb hm
     refine ⟨ES, h3, fun r' v hf hv => ?_⟩
     unfold Instr.lookup
     simp only [Sem.run_bind, run_underlying ht, Result.andThen_ok, Sem.run_pure, MapKept.run_getObj_map h2, hchk, hf]
     cases r' with
     | none => simp [hzero, hv]
     | some p => simp [hv]
    ·cases hes
  rcases findP_key (w := w) hkv h1 hrel hk with ⟨g1, g2⟩ | ⟨j, k', v, n, E, g1, g2, g3, g4, g5, g6, g7⟩
  ·refine Out.same R (hget _ _ g1 rfl) g2 ?_
   cases ok
   ·exact hzr
   ·exact ⟨_, rfl, ⟨zv, [.bool false], rfl, hzr, _, _, rfl, rfl, rfl⟩⟩
  ·refine Out.same R (hget _ _ g1 rfl) g2 ?_
   cases ok
   ·exact g5
   ·exact ⟨_, rfl, ⟨E.val, [.bool true], rfl, g5, _, _, rfl, rfl, rfl⟩⟩
 ·exact hk.elim
theorem run_setObj' {r : Nat} {ES : Array MapEntry} {cl : Nat} (hb : w.heap[r]? = some (.map ES cl)) (o : Obj) : (setObj r o).run P w = .ok () (w.setBlk r o) := run_setObj_map o hb
theorem out_update (R : Rel μ0 h0 w0 μ lam L h w) {t kt et : TypeId} (ht : P.underlying t = some (.map kt et)) {b : Nat} {vm : Value} (hm : AV.rel μ (.map (some b)) vm) {k v : AV} {vk vv : Value} (hkv : k.rel μ vk) (hvv : v.rel μ vv)
  {KH : Heap → Prop} (hk : PUpdate P kt b k v h KH) : ∃ w' h', (Instr.mapUpdate t vm vk vv).run P w = .ok () w' ∧ KH h' ∧ Rel μ0 h0 w0 μ lam L h' w' := by
 unfold PUpdate at hk
 split at hk
 ·rename_i es cl hb
  obtain ⟨h1, hk⟩ := need_elim hk
  simp only [Bool.and_eq_true] at h1
  obtain ⟨hchk, hbits⟩ := keyOk_some (w := w) hkv h1.1
  obtain ⟨e, ES, he, rfl, h2, h3⟩ := map_block R hb hm
  have hlt := heap_lt h2
  rcases findP_key (w := w) hkv h1.1 h3 hk with ⟨g1, g2⟩ | ⟨j, k', v', n, E, g1, g2, g3, g4, g5, g6, g7⟩
  ·refine ⟨w.setBlk e.r (.map (ES.push ⟨vk, vv, cl⟩) (cl + 1)), _, ?_, g2, R.setB hb rfl he rfl h2 ?_⟩
   ·unfold Instr.mapUpdate
    simp only [Sem.run_bind, run_underlying ht, Result.andThen_ok, MapKept.run_getObj_map h2, hchk, g1, run_setObj' h2]
   ·refine ⟨_, setBlk_same _ _ _ hlt, relM.of_get (by simp [h3.length]) fun i x E' hx hE => ?_⟩
    have hl := h3.length
    simp at hl
    simp only [Array.toList_push] at hE
    rw [List.getElem?_append] at hx hE
    split at hx
    ·rename_i hi
     rw [if_pos (by simp [hl, hi])] at hE
     obtain ⟨E2, q1, q2⟩ := h3.get hx
     rw [q1] at hE; cases hE; exact q2
    ·rename_i hi
     rw [if_neg (by simp [hl]; omega)] at hE
     have : i - es.length = 0 := by have := lt_of_get hx; simp at this; omega
     rw [this] at hx
     rw [show i - ES.toList.length = 0 by simp [hl]; omega] at hE
     simp at hx hE
     subst hx; subst hE
     exact ⟨hkv, hvv, rfl⟩
  ·refine ⟨w.setBlk e.r (.map (ES.modify j fun e => { e with key := vk, val := vv }) cl), _, ?_, g2, R.setB hb rfl he rfl h2 ?_⟩
   ·unfold Instr.mapUpdate
    have hstay : (Instr.keyThatStays (((ES[j]?).map (·.key)).getD vk) vk).run P w = .ok vk w := by
     have : (((ES[j]?).map (·.key)).getD vk) = vk := by
      have : ES[j]? = some E := by simpa using g4
      rw [this]; simpa using g6
     rw [this]
     unfold Instr.keyThatStays
     rw [hbits]
     rfl
    simp only [Sem.run_bind, run_underlying ht, Result.andThen_ok, MapKept.run_getObj_map h2, hchk, g1]
    rw [hstay]
    simp only [Result.andThen_ok]
    rw [run_setObj' h2]
   ·refine ⟨_, setBlk_same _ _ _ hlt, relM.of_get (by simp [h3.length]; try (have := h3.length; simpa using this)) fun i x E' hx hE => ?_⟩
    have hE' : (ES.modify j fun e => { e with key := vk, val := vv })[i]? = some E' := by rw [← Array.getElem?_toList]; exact hE
    rw [Array.getElem?_modify] at hE'
    rw [List.getElem?_set] at hx
    by_cases hij : j = i
    ·subst hij
     rw [if_pos rfl] at hx hE'
     rw [if_pos (lt_of_get g3)] at hx
     have : ES[j]? = some E := by simpa using g4
     rw [this] at hE'
     simp at hE' hx
     subst hE'; subst hx
     exact ⟨hkv, hvv, g7⟩
    ·rw [if_neg hij] at hx hE'
     obtain ⟨E2, q1, q2⟩ := h3.get hx
     have : ES[i]? = some E2 := by simpa using q1
     rw [this] at hE'; simp at hE'; subst hE'; exact q2
 ·exact hk.elim
theorem out_mapEntry (R : Rel μ0 h0 w0 μ lam L h w) {t kt et : TypeId} (ht : P.underlying t = some (.map kt et)) {b : Nat} {vm : Value} (hm : AV.rel μ (.map (some b)) vm) {k : AV} {vk : Value} (hkv : k.rel μ vk)
  {KH : AV → Nat → Heap → Prop} (hk : PEntryAt P kt et b k h KH) : ∃ w' h' v n y, (Instr.mapEntry t vm vk).run P w = .ok y w' ∧ KH v n h' ∧ AV.rel μ (.tup [v, .int .i64 n]) y ∧ Rel μ0 h0 w0 μ lam L h' w' := by
 unfold PEntryAt at hk
 split at hk
 ·rename_i es cl z hb hz
  obtain ⟨h1, hk⟩ := need_elim hk
  obtain ⟨hchk, hbits⟩ := keyOk_some (w := w) hkv h1
  obtain ⟨e, ES, he, rfl, h2, h3⟩ := map_block R hb hm
  obtain ⟨i, zv, hi, hiz, hzz⟩ := tz_info hz
  have hzr : z.rel μ zv := ofV_rel μ 4 zv z hzz
  have hzero : ∀ w, (zeroValue et).run P w = .ok zv w := fun w => by simp [zeroValue, typeInfo, hi, hiz]
  have hlt := heap_lt h2
  rcases findP_key (w := w) hkv h1 h3 hk with ⟨g1, g2⟩ | ⟨j, k', v', n, E, g1, g2, g3, g4, g5, g6, g7⟩
  ·refine ⟨w.setBlk e.r (.map (ES.push ⟨vk, zv, cl⟩) (cl + 1)), _, _, _, .tuple #[zv, goInt cl], ?_, g2, ⟨_, rfl, zv, [goInt cl], rfl, hzr, _, _, rfl, rfl, rfl⟩, R.setB hb rfl he rfl h2 ?_⟩
   ·unfold Instr.mapEntry
    simp only [Sem.run_bind, run_underlying ht, Result.andThen_ok, MapKept.run_getObj_map h2, hchk, g1, hzero, run_setObj' h2, Sem.run_pure]
   ·refine ⟨_, setBlk_same _ _ _ hlt, relM.of_get (by simp [h3.length]) fun i x E' hx hE => ?_⟩
    have hl := h3.length
    simp at hl
    simp only [Array.toList_push] at hE
    rw [List.getElem?_append] at hx hE
    split at hx
    ·rename_i hi
     rw [if_pos (by simp [hl, hi])] at hE
     obtain ⟨E2, q1, q2⟩ := h3.get hx
     rw [q1] at hE; cases hE; exact q2
    ·rename_i hi
     rw [if_neg (by simp [hl]; omega)] at hE
     have : i - es.length = 0 := by have := lt_of_get hx; simp at this; omega
     rw [this] at hx
     rw [show i - ES.toList.length = 0 by simp [hl]; omega] at hE
     simp at hx hE
     subst hx; subst hE
     exact ⟨hkv, hzr, rfl⟩
  ·have hEj : ES[j]? = some E := by simpa using g4
   have hborn : ((ES[j]?).map (fun x => (x.born : Int))).getD 0 = (n : Int) := by rw [hEj]; simp [g7]
   refine ⟨w.setBlk e.r (.map (ES.modify j fun e => { e with key := vk }) cl), _, _, _, .tuple #[E.val, goInt n], ?_, g2, ⟨_, rfl, E.val, [goInt n], rfl, g5, _, _, rfl, rfl, rfl⟩, R.setB hb rfl he rfl h2 ?_⟩
   ·unfold Instr.mapEntry
    have hstay : (Instr.keyThatStays (((ES[j]?).map (·.key)).getD vk) vk).run P w = .ok vk w := by
     have : (((ES[j]?).map (·.key)).getD vk) = vk := by
      rw [hEj]; simpa using g6
     rw [this]
     unfold Instr.keyThatStays
     rw [hbits]
     rfl
    simp only [Sem.run_bind, run_underlying ht, Result.andThen_ok, MapKept.run_getObj_map h2, hchk, g1]
    rw [hstay]
    simp only [Result.andThen_ok]
    rw [run_setObj' h2]
    simp only [Result.andThen_ok, Sem.run_pure, hborn]
   ·refine ⟨_, setBlk_same _ _ _ hlt, relM.of_get (by simp [h3.length]; try (have := h3.length; simpa using this)) fun i x E' hx hE => ?_⟩
    have hE' : (ES.modify j fun e => { e with key := vk })[i]? = some E' := by rw [← Array.getElem?_toList]; exact hE
    rw [Array.getElem?_modify] at hE'
    rw [List.getElem?_set] at hx
    by_cases hij : j = i
    ·subst hij
     rw [if_pos rfl] at hx hE'
     rw [if_pos (lt_of_get g3)] at hx
     rw [hEj] at hE'
     simp at hE' hx
     subst hE'; subst hx
     exact ⟨hkv, g5, g7⟩
    ·rw [if_neg hij] at hx hE'
     obtain ⟨E2, q1, q2⟩ := h3.get hx
     have : ES[i]? = some E2 := by simpa using q1
     rw [this] at hE'; cases hE'; exact q2
 ·exact hk.elim
theorem relM.findIdx {μ : Ren} (n : Int) : ∀ {es : List (AV × AV × Nat)} {l : List MapEntry}, relM μ es l → l.findIdx? (fun E => (E.born : Int) == n) = es.findIdx? (fun e => (e.2.2 : Int) == n)
 | [], l, r => by obtain rfl : l = [] := r; rfl
 | (k, v, m) :: es, _, ⟨E, Es, h1, h2, h3, h4, h5⟩ => by
  subst h1
  rw [List.findIdx?_cons, List.findIdx?_cons, relM.findIdx n h5, h4]
theorem out_entryStore (R : Rel μ0 h0 w0 μ lam L h w) {t : TypeId} {b : Nat} {vm : Value} (hm : AV.rel μ (.map (some b)) vm) {kk : IntKind} {n : Int} {v : AV} {vv : Value} (hvv : v.rel μ vv)
  {KH : Heap → Prop} (hk : PEntrySet b n v h KH) : ∃ w' h', (Instr.entryStore t vm (.int kk n) vv).run P w = .ok () w' ∧ KH h' ∧ Rel μ0 h0 w0 μ lam L h' w' := by
 unfold PEntrySet at hk
 split at hk
 ·rename_i es cl hb
  obtain ⟨h1, hk⟩ := need_elim hk
  obtain ⟨e, ES, he, rfl, h2, h3⟩ := map_block R hb hm
  have hlt := heap_lt h2
  split at hk
  ·rename_i j hj
   have hj' : ES.findIdx? (fun E => (E.born : Int) == n) = some j := by
    have : ES.findIdx? (fun E => (E.born : Int) == n) = ES.toList.findIdx? (fun E => (E.born : Int) == n) := by
     obtain ⟨l⟩ := ES
     simp
    rw [this, relM.findIdx n h3]; exact hj
   refine ⟨w.setBlk e.r (.map (ES.modify j fun e => { e with val := vv }) cl), _, ?_, hk, R.setB hb rfl he rfl h2 ?_⟩
   ·unfold Instr.entryStore
    simp only [Sem.run_bind, Result.andThen_ok, MapKept.run_getObj_map h2, asInt, asIntOf, Sem.run_pure, hj', run_setObj' h2]
   ·refine ⟨_, setBlk_same _ _ _ hlt, relM.of_get (by simp [h3.length]; try (have := h3.length; simpa using this)) fun i x E' hx hE => ?_⟩
    have hE' : (ES.modify j fun e => { e with val := vv })[i]? = some E' := by rw [← Array.getElem?_toList]; exact hE
    rw [Array.getElem?_modify] at hE'
    rw [List.getElem?_modify] at hx
    cases hei : es[i]? with
    | none => rw [hei] at hx; simp at hx
    | some y =>
     obtain ⟨E2, q1, q2⟩ := h3.get hei
     have q1' : ES[i]? = some E2 := by simpa using q1
     rw [hei] at hx
     rw [q1'] at hE'
     by_cases hij : j = i
     ·subst hij
      simp at hx hE'
      subst hx; subst hE'
      exact ⟨q2.1, hvv, q2.2.2⟩
     ·simp [hij] at hx hE'
      subst hx; subst hE'
      exact q2
  ·exact hk.elim
 ·exact hk.elim
theorem out_delete (R : Rel μ0 h0 w0 μ lam L h w) {t u kt et ty : TypeId} (ht : P.underlying t = some (.map kt et)) {m : Option Nat} {vm : Value} (hm : AV.rel μ (.map m) vm) {k : AV} {vk : Value} (hkv : k.rel μ vk)
  {KH : Heap → Prop} (hk : PDelete P kt m k h KH) : ∃ w' h', (Builtin.delete_ #[t, u] ty #[vm, vk]).run P w = .ok (.tuple #[]) w' ∧ KH h' ∧ Rel μ0 h0 w0 μ lam L h' w' := by
 unfold PDelete at hk
 split at hk
 ·obtain rfl : vm = _ := hm
  obtain ⟨h1, hk⟩ := need_elim hk
  obtain ⟨hchk, hbits⟩ := keyOk_some (w := w) hkv h1
  refine ⟨w, h, ?_, hk, R⟩
  unfold Builtin.delete_
  simp [run_underlying ht, hchk]
 ·rename_i b
  split at hk
  ·rename_i es cl hb
   obtain ⟨h1, hk⟩ := need_elim hk
   obtain ⟨hchk, hbits⟩ := keyOk_some (w := w) hkv h1
   obtain ⟨e, ES, he, rfl, h2, h3⟩ := map_block R hb hm
   have hlt := heap_lt h2
   rcases findP_key (w := w) hkv h1 h3 hk with ⟨g1, g2⟩ | ⟨j, k', v', n, E, g1, g2, g3, g4, g5, g6, g7⟩
   ·refine ⟨w.setBlk e.r (.map ES cl), _, ?_, g2, R.setB hb rfl he rfl h2 ⟨_, setBlk_same _ _ _ hlt, h3⟩⟩
    unfold Builtin.delete_
    simp [run_underlying ht, hchk, MapKept.run_getObj_map h2, g1, run_setObj' h2]
   ·refine ⟨w.setBlk e.r (.map (ES.eraseIdxIfInBounds j) cl), _, ?_, g2, R.setB hb rfl he rfl h2 ⟨_, setBlk_same _ _ _ hlt, ?_⟩⟩
    ·unfold Builtin.delete_
     simp [run_underlying ht, hchk, MapKept.run_getObj_map h2, g1, run_setObj' h2]
    ·have hj : j < ES.size := by have := lt_of_get g4; simpa using this
     have e1 : (ES.eraseIdxIfInBounds j).toList = ES.toList.eraseIdx j := by
      unfold Array.eraseIdxIfInBounds
      rw [dif_pos hj]
      exact Array.toList_eraseIdx ..
     rw [e1]
     have hl := h3.length
     refine relM.of_get (by rw [List.length_eraseIdx, List.length_eraseIdx, hl]) fun i x E' hx hE => ?_
     rw [List.getElem?_eraseIdx] at hx hE
     split at hx
     ·rename_i hi
      rw [if_pos hi] at hE
      obtain ⟨E2, q1, q2⟩ := h3.get hx
      rw [q1] at hE; cases hE; exact q2
     ·rename_i hi
      rw [if_neg hi] at hE
      obtain ⟨E2, q1, q2⟩ := h3.get hx
      rw [q1] at hE; cases hE; exact q2
  ·exact hk.elim
theorem out_makeMap (R : Rel μ0 h0 w0 μ lam L h w) {t : TypeId} (hk : K (.val (.map (some h.length))) L (h ++ [.mp [] 0])) : Out P μ0 h0 w0 μ lam w (Instr.makeMap t none) K := by
 have hlen := R.heap.len
 refine ⟨.map (some w.heap.size), w.alloc (.map #[] 0), _, _, _, _, lam, ?_, hk, R.allocB (.mp [] 0) (.map #[] 0) 0 ⟨#[], heap_push_new _ _, rfl⟩, Ren.le_append _ _, lamLe.refl _, ?_⟩
 ·rfl
 ·exact ⟨⟨w.heap.size, 0, 0⟩, by rw [← hlen]; simp, rfl⟩
theorem out_range (R : Rel μ0 h0 w0 μ lam L h w) {t kt et : TypeId} (ht : P.underlying t = some (.map kt et)) {m : Option Nat} {vm : Value} (hm : AV.rel μ (.map m) vm)
  (hk : vRange m h fun b h' => K (.val (.ptr (some ⟨b, 0⟩))) L h') : Out P μ0 h0 w0 μ lam w (Instr.range t vm) K := by
 have hlen := R.heap.len
 cases m with
 | none =>
  obtain rfl : vm = _ := hm
  refine ⟨.pointer (some ⟨w.heap.size, 0, none⟩), w.alloc (.mapIter none 0 #[] 0), _, _, _, _, lam, ?_, hk, R.allocB (.it none 0 [] 0) (.mapIter none 0 #[] 0) 0 ⟨rfl, none, heap_push_new _ _, rfl⟩, Ren.le_append _ _, lamLe.refl _, ?_⟩
  ·simp [Instr.range, run_underlying ht]
  ·exact ⟨⟨w.heap.size, 0, 0⟩, by rw [← hlen]; simp, rfl⟩
 | some b =>
  simp only [vRange] at hk
  split at hk
  ·rename_i es cl hb
   obtain ⟨e, ES, he, rfl, h2, h3⟩ := map_block R hb hm
   refine ⟨.pointer (some ⟨w.heap.size, 0, none⟩), w.alloc (.mapIter (some e.r) cl #[] cl), _, _, _, _, lam, ?_, hk,
    R.allocB (.it (some b) cl [] cl) (.mapIter (some e.r) cl #[] cl) 0 ⟨rfl, some e.r, heap_push_new _ _, e, Ren.le_append _ _ _ _ he, rfl⟩, Ren.le_append _ _, lamLe.refl _, ?_⟩
   ·simp [Instr.range, run_underlying ht, MapKept.run_getObj_map h2]
   ·exact ⟨⟨w.heap.size, 0, 0⟩, by rw [← hlen]; simp, rfl⟩
  ·exact hk.elim
theorem it_block (R : Rel μ0 h0 w0 μ lam L h w) {b since last : Nat} {m : Option Nat} {seen : List Nat} (hb : h[b]? = some (.it m since seen last)) {v : Value} (hv : AV.rel μ (.ptr (some ⟨b, 0⟩)) v) :
  ∃ (e : ME) (mm : Option Nat), μ[b]? = some e ∧ v = .pointer (some ⟨e.r, 0, none⟩) ∧ w.heap[e.r]? = some (.mapIter mm since seen.toArray last) ∧ relO μ m mm ∧ e.s = 0 := by
 obtain ⟨e, he, hv⟩ := hv
 obtain ⟨h0, mm, h1, h2⟩ := R.heap.blk b _ e hb he
 exact ⟨e, mm, he, by rw [hv]; simp [h0], h1, h2, h0⟩
theorem relM.filter {μ : Ren} (p : Nat → Bool) : ∀ {es : List (AV × AV × Nat)} {l : List MapEntry}, relM μ es l → relM μ (es.filter fun e => p e.2.2) (l.filter fun E => p E.born)
 | [], _, r => by rw [show _ = [] from r]; rfl
 | (k, v, n) :: es, _, ⟨E, Es, h1, h2, h3, h4, h5⟩ => by
  subst h1
  subst h4
  cases hp : p E.born with
  | true => simp only [List.filter, hp]; exact ⟨E, _, rfl, h2, h3, rfl, h5.filter p⟩
  | false => simp only [List.filter, hp]; exact h5.filter p
theorem allE_mem {KE : AV × AV × Nat → Prop} : ∀ {l : List (AV × AV × Nat)}, allE l KE → ∀ x ∈ l, KE x
 | [], _, x, hx => by simp at hx
 | [e], h, x, hx => by simp at hx; subst hx; exact h
 | e :: e' :: es, ⟨h1, h2⟩, x, hx => by
  rcases List.mem_cons.1 hx with rfl | hx
  ·exact h1
  ·exact allE_mem h2 x hx
theorem run_getObj_it {r : Nat} {a : Option Nat} {b d : Nat} {c : Array Nat} (h : w.heap[r]? = some (.mapIter a b c d)) : (getObj r).run P w = .ok (.mapIter a b c d) w := by simp [getObj, Sem.run, h]
theorem run_setObj_it {r : Nat} {a : Option Nat} {b d : Nat} {c : Array Nat} (o' : Obj) (h : w.heap[r]? = some (.mapIter a b c d)) : (setObj r o').run P w = .ok () (w.setBlk r o') := by
 simp [setObj, Sem.run, h, World.setBlk]
theorem out_next (R : Rel μ0 h0 w0 μ lam L h w) {b : Nat} {ty : TypeId} {v : Value} (hv : AV.rel μ (.ptr (some ⟨b, 0⟩)) v) (hk : PNext b h fun x h' => K (.val x) L h') : Out P μ0 h0 w0 μ lam w (Instr.next v false ty) K := by
 unfold PNext at hk
 split at hk
 ·rename_i s1 s2 s3 hb
  obtain ⟨e, mm, he, rfl, h1, h2, h3⟩ := it_block R hb hv
  obtain rfl : mm = none := h2
  refine Out.same R (v := .tuple #[.bool false]) ?_ hk ⟨_, rfl, _, _, rfl, rfl, rfl⟩
  simp only [Instr.next, Sem.run_bind, run_getObj_it h1, Result.andThen_ok]
  rfl
 ·rename_i m since seen last hb
  obtain ⟨e, mm, he, rfl, h1, h2, h3⟩ := it_block R hb hv
  obtain ⟨em, hem, rfl⟩ := h2
  split at hk
  ·rename_i es cl hm
   obtain ⟨hall, hk⟩ := need_elim hk
   simp only [List.all_eq_true, Bool.and_eq_true, decide_eq_true_eq] at hall
   obtain ⟨ES, g1, g2⟩ := R.heap.blk m _ em hm hem
   have hES : ∀ E ∈ ES.toList, E.born < since ∧ E.born < last := by
    intro E hE
    obtain ⟨i, hi⟩ := List.getElem?_of_mem hE
    have hl := g2.length
    have hlt := lt_of_get hi
    obtain ⟨E', q1, q2, q3, q4⟩ := g2.get (i := i) (x := es[i]'(by omega)) (by simp)
    rw [hi] at q1; cases q1
    rw [q4]
    exact hall _ (List.getElem_mem _)
   have hif : (!seen.toArray.isEmpty && !ES.isEmpty && ES.all (fun x => decide (x.born ≥ last))) = false := by
    cases hemp : ES.isEmpty with
    | true => simp
    | false =>
     have : 0 < ES.size := by
      rcases Nat.eq_zero_or_pos ES.size with h0 | h0
      ·simp [Array.isEmpty, h0] at hemp
      ·exact h0
     have hx := hES ES[0] (by simp)
     have : ES.all (fun x => decide (x.born ≥ last)) = false := by
      rw [Bool.eq_false_iff]
      intro hh
      have := (Array.all_eq_true.1 hh) 0 this
      simp at this
      omega
     simp [this]
   have hfl : (ES.filter fun e => !seen.toArray.contains e.born).toList = ES.toList.filter fun E => !seen.contains E.born := by
    rw [Array.toList_filter]
    congr 1
    funext E
    simp [Array.contains_eq_mem, List.contains_eq_mem]
   have hleft := g2.filter fun n => !seen.contains n
   rw [← hfl] at hleft
   generalize hLdef : (ES.filter fun e => !seen.toArray.contains e.born) = Lft at hleft
   have hmemL : ∀ x ∈ Lft.toList, x.born < since := by
    intro x hx
    rw [← hLdef] at hx
    rw [Array.toList_filter] at hx
    exact (hES x (List.mem_filter.1 hx).1).1
   have e1 : Lft.filter (fun x => decide (x.born < since)) = Lft := Array.filter_eq_self.2 (fun x hx => by simpa using hmemL x (by simpa using hx))
   have e2 : Lft.filter (fun x => decide (x.born ≥ since)) = #[] := by
    rw [Array.filter_eq_empty_iff]
    intro x hx
    have := hmemL x (by simpa using hx)
    simp
    omega
   obtain ⟨msg, hrun0⟩ : ∃ msg : String, ∀ (X : Result Value), ((do
     let candidates := (if Lft.isEmpty then #[none] else #[]) ++ Lft.map some
     match candidates[← choose (.mapNext candidates.size)]? with
     | some (some e') => do
      setObj e.r (.mapIter (some em.r) since (seen.toArray.push e'.born) cl)
      pure (.tuple #[.bool true, e'.key, e'.val])
     | some none => pure (.tuple #[.bool false])
     | none => stuck msg : Sem Value).run P w = X) → (Instr.next (.pointer (some ⟨e.r, 0, none⟩)) false ty).run P w = X := by
    apply Exists.intro
    intro X hX
    rw [← hX]
    simp only [Instr.next, Sem.run_bind, run_getObj_it h1, MapKept.run_getObj_map g1, Result.andThen_ok, hif, Bool.false_eq_true, if_false, hLdef, e1, e2, Array.append_empty]
    rfl
   have hlenL := hleft.length
   split at hk
   ·rename_i hnil
    have : leftE es seen = [] := hnil
    unfold leftE at this
    rw [this] at hlenL
    have h0 : Lft = #[] := Array.eq_empty_of_size_eq_zero (by simpa using hlenL)
    refine Out.same R (v := .tuple #[.bool false]) (hrun0 _ ?_) hk ⟨_, rfl, _, _, rfl, rfl, rfl⟩
    rw [h0]
    simp [choose, Sem.run, Question.forced]
   ·rename_i hne
    have hpos : 0 < Lft.size := by
     rcases Nat.eq_zero_or_pos Lft.size with h0 | h0
     ·exfalso
      apply hne
      unfold leftE
      apply List.eq_nil_of_length_eq_zero
      rw [← hlenL]
      simpa using h0
     ·exact h0
    have hnE : Lft.isEmpty = false := by unfold Array.isEmpty; exact decide_eq_false (by omega)
    have hch : ∃ (j : Nat) (w1 : World), j < Lft.size ∧ (w1 = w ∨ w1 = w.drew) ∧ (choose (Question.mapNext Lft.size)).run P w = .ok j w1 := by
     by_cases hf : Lft.size ≤ 1
     ·exact ⟨0, w, by omega, .inl rfl, by simp [choose, Sem.run, Question.forced, hf]⟩
     ·exact ⟨_, w.drew, Nat.mod_lt _ (by omega), .inr rfl, by
       simp only [choose, Sem.run, Question.forced, decide_eq_true_eq, hf, if_false, Question.cut]
       rfl⟩
    obtain ⟨j, w1, hj, hw1, hchr⟩ := hch
    have R1 : Rel μ0 h0 w0 μ lam L h w1 := by
     rcases hw1 with rfl | rfl
     ·exact R
     ·exact R.drawn rfl rfl rfl rfl
    have hh1 : w1.heap = w.heap := by rcases hw1 with rfl | rfl <;> rfl
    have h1' : w1.heap[e.r]? = some (.mapIter (some em.r) since seen.toArray last) := by rw [hh1]; exact h1
    obtain ⟨x, hx⟩ : ∃ x, (leftE es seen)[j]? = some x := ⟨_, List.getElem?_eq_getElem (by unfold leftE; rw [← hlenL]; simpa using hj)⟩
    obtain ⟨E, q1, q2, q3, q4⟩ := hleft.get hx
    have hEj : Lft[j] = E := by
     have : Lft[j]? = some E := by simpa using q1
     rw [Array.getElem?_eq_getElem hj] at this
     exact Option.some.inj this
    have hKx := allE_mem hk x (List.mem_of_getElem? hx)
    refine ⟨.tuple #[.bool true, E.key, E.val], w1.setBlk e.r (.mapIter (some em.r) since (seen.toArray.push E.born) cl), _, _, _, μ, lam, hrun0 _ ?_, hKx, ?_, .refl _, lamLe.refl _, ?_⟩
    ·simp only [hnE, Bool.false_eq_true, if_false, Array.empty_append, Array.size_map, Sem.run_bind, hchr, Result.andThen_ok, Array.getElem?_map, Array.getElem?_eq_getElem hj, Option.map_some, hEj]
     rw [run_setObj_it _ h1']
     rfl
    ·refine R1.setB hb rfl he rfl h1' ⟨h3, some em.r, ?_, em, hem, rfl⟩
     rw [setBlk_same _ _ _ (heap_lt h1'), q4]
     simp
    ·exact ⟨_, rfl, _, _, rfl, rfl, _, _, rfl, q2, _, _, rfl, q3, rfl⟩
  ·exact hk.elim
 ·exact hk.elim
theorem relM.find {μ : Ren} (stamp : Nat) : ∀ {es : List (AV × AV × Nat)} {l : List MapEntry}, relM μ es l → ∀ {x}, es.find? (fun e => e.2.2 == stamp) = some x → ∃ E, l.find? (fun E => E.born == stamp) = some E ∧ x.1.rel μ E.key ∧ x.2.1.rel μ E.val
 | [], _, _, x, hx => by simp at hx
 | (k, v, n) :: es, _, ⟨E, Es, h1, h2, h3, h4, h5⟩, x, hx => by
  subst h1
  subst h4
  cases hp : E.born == stamp with
  | true => simp only [List.find?, hp] at hx ⊢; cases hx; exact ⟨E, rfl, h2, h3⟩
  | false => simp only [List.find?, hp] at hx ⊢; exact h5.find stamp hx
theorem out_entry (R : Rel μ0 h0 w0 μ lam L h w) {b : Nat} {v : Value} (hv : AV.rel μ (.ptr (some ⟨b, 0⟩)) v) (hk : PEntry b h fun x => K (.val x) L h) : Out P μ0 h0 w0 μ lam w (Instr.entry v) K := by
 unfold PEntry at hk
 split at hk
 ·rename_i m since seen stepped hb
  obtain ⟨e, mm, he, rfl, h1, h2, h3⟩ := it_block R hb hv
  obtain ⟨em, hem, rfl⟩ := h2
  split at hk
  ·rename_i stamp es cl hl hm
   obtain ⟨hc, hk2⟩ := need_elim hk
   clear hk
   have hc' : cl = stepped := by simpa using hc
   subst hc'
   obtain ⟨ES, g1, g2⟩ := R.heap.blk m _ em hm hem
   split at hk2
   ·rename_i x hx
    obtain ⟨E, q1, q2, q3⟩ := g2.find stamp hx
    refine Out.same R (v := .tuple #[E.key, E.val]) ?_ hk2 ⟨_, rfl, _, _, rfl, q2, _, _, rfl, q3, rfl⟩
    have hback : seen.toArray.back? = some stamp := by simpa using hl
    have hfind : ES.find? (fun E => E.born == stamp) = some E := by rw [← Array.find?_toList]; exact q1
    simp only [Instr.entry, Sem.run_bind, run_getObj_it h1, Result.andThen_ok, hback, MapKept.run_getObj_map g1]
    simp [hfind]
   ·exact hk2.elim
  ·exact hk.elim
 ·exact hk.elim
end
end Go.Ab
namespace Go.Ab
set_option linter.unusedSimpArgs false
set_option linter.unusedVariables false
def callable (P : Program) (f : FuncId) : Bool := match P.funcs[f]? with | some fn => fn.body.isSome && (!(fn.name == "runtime.NumGoroutine") && !(Nat.beq f 1000000000)) | none => false
theorem callable_ne {P : Program} {f : FuncId} (h : callable P f = true) : Nat.beq f 1000000000 = false := by
 unfold callable at h
 split at h
 ·simp only [Bool.and_eq_true, Bool.not_eq_true'] at h
  exact h.2.2
 ·cases h
def CallPost (μ : Ren) (h : Heap) (w : World) (Q : AV → Heap → Prop) (e : Ending) (w' : World) : Prop :=
 ∃ v x h' μ', e = .returned v ∧ Q x h' ∧ Evo μ h w μ' h' w' ∧ HRel μ' h' w' ∧ x.rel μ' v
def AC (P : Program) (f : FuncId) (args : List AV) (h : Heap) (Q : AV → Heap → Prop) : Prop :=
 callable P f = true ∧ ∀ (μ : Ren) (w : World) (vs : List Value), HRel μ h w → relL μ args vs → Calls P f vs.toArray w (CallPost μ h w Q)
theorem AC.mono {P : Program} {f : FuncId} {args : List AV} {h : Heap} {Q Q' : AV → Heap → Prop} (H : AC P f args h Q) (hq : ∀ v h', Q v h' → Q' v h') : AC P f args h Q' :=
 ⟨H.1, fun μ w vs hh hv => (H.2 μ w vs hh hv).mono fun _ _ ⟨v, x, h', μ', e, q, rest⟩ => ⟨v, x, h', μ', e, hq _ _ q, rest⟩⟩
section
variable {P : Program} {μ0 : Ren} {h0 : Heap} {w0 : World} {μ : Ren} {lam : List Nat} {L : Locs} {h : Heap} {w : World} {K : KO}
theorem Rel.call (R : Rel μ0 h0 w0 μ lam L h w) {μ' : Ren} {h' : Heap} {w' : World} (hev : Evo μ h w μ' h' w') (hh : HRel μ' h' w') : Rel μ0 h0 w0 μ' lam L h' w' := by
 have same : ∀ k r : Nat, lam[k]? = some r → w'.heap[r]? = w.heap[r]? := by
  intro k r hk
  refine hev.frame r (R.locs.new k r hk).2 fun b B e hb hB he => ?_
  exact R.locs.sep k r b B e hk hb (by cases B <;> simp_all [Blk.rw, Blk.live]) he
 refine ⟨R.evo.trans hev, hh, ⟨R.locs.len, ?_, R.locs.inj, ?_, ?_⟩⟩
 ·intro k c r hc hr
  obtain ⟨C, t, fz, h1, h2, h3⟩ := R.locs.blk k c r hc hr
  exact ⟨C, t, fz, by rw [same k r hr, h1], relL.mono hev.le _ _ h2, h3⟩
 ·intro k r b B e hk hb hB he
  have hnew := (R.locs.new k r hk).2
  rcases hev.liv b B e hb hB he with h1 | ⟨b0, B0, e0, h1, h2, h3, h4⟩
  ·omega
  ·rw [← h4]; exact R.locs.sep k r b0 B0 e0 hk h1 h2 h3
 ·intro k r hk
  have := R.locs.new k r hk
  have := hev.size
  omega
theorem run_callFunc {f : FuncId} (hf : callable P f = true) (args : Array Value) : (callFunc f args).run P w = .ok (.enter f args) w := by
 simp only [callable] at hf
 split at hf
 ·rename_i fn hfn
  simp only [Bool.and_eq_true, Bool.not_eq_true', Option.isSome_iff_exists] at hf
  obtain ⟨⟨c, hc⟩, hn⟩ := hf
  unfold callFunc
  rw [Sem.run_bind, run_program]
  simp only [Result.andThen_ok, hfn, hn, Bool.false_eq_true, if_false, hc, Option.isNone_some]
  rfl
 ·cases hf
theorem out_copy (R : Rel μ0 h0 w0 μ lam L h w) {t u ty e : TypeId} (ht : telem P t = some e) {s src : Option SL} {vs vx : Value} (hs : AV.rel μ (.sl s) vs) (hx : AV.rel μ (.sl src) vx) {i : TypeInfo} (hi : P.info? e = some i)
  {KI : Int → Heap → Prop} (hk : PCopyS (tsz P e) s src h KI) :
  ∃ n w' h', (Builtin.copy_ #[t, u] ty #[vs, vx]).run P w = .ok (.int .i64 n) w' ∧ KI n h' ∧ Rel μ0 h0 w0 μ lam L h' w' := by
 have hu := telem_some ht
 obtain ⟨xs, hxs, hxl, hk⟩ := hk
 obtain ⟨a, len, cap, news, rfl, rfl, hnl, hr, hone, ha, hn⟩ := slCells_rel R hx (by
  by_cases h0 : min (slLen src) (slLen s) * tsz P e = 0
  ·exact .inl h0
  ·right
   have : min (slLen src) (slLen s) ≠ 0 := fun hc => h0 (by rw [hc]; simp)
   omega) hxs
 have hsz : tsz P e = i.size := tsz_info hi
 have hfirst : (Builtin.firstCells i.size (min (slLen src) (slLen s)) (.slice a (slLen src) cap)).run P w = .ok news.toArray w := by
  cases a with
  | none => rw [hn rfl]; exact run_firstCells_none w _ _ _ _
  | some a =>
   exact firstCells_of (w := w) (by rw [hnl, hsz]) (ha a rfl) w rfl
 have hmin : Nat.min (slLen src) (slLen s) = min (slLen src) (slLen s) := rfl
 cases s with
 | none =>
  obtain rfl : vs = _ := hs
  obtain ⟨hn0, hk⟩ := hk
  refine ⟨_, w, h, ?_, hk, R⟩
  unfold Builtin.copy_
  simp only [slLen] at hfirst hn0 ⊢
  simp [run_underlying hu, Builtin.lenOf, sizeOf, typeInfo, hi, hmin, goInt] at hfirst ⊢
  simp [hfirst]
 | some s =>
  obtain ⟨m, c', q, hmm, rfl, hlc, hq, hx1, hx2⟩ := hs
  obtain ⟨hle, hk⟩ := hk
  by_cases hc0 : c' = 0
  ·have hcap : s.cap ≤ c' := by
    by_cases ho' : s.opn = 0
    ·rw [hx1 ho']; omega
    ·exact (hx2 ho').1
   have hl0 : s.len = 0 := by omega
   have hn0 : min (slLen src) (slLen (some s)) = 0 := by simp [slLen, hl0]
   have hxs0 : xs = [] := by apply List.eq_nil_of_length_eq_zero; rw [hxl, hn0]; simp
   have hnews : news = [] := by apply List.eq_nil_of_length_eq_zero; rw [hnl, hn0]; simp
   subst hxs0; subst hnews
   simp only [PStore] at hk
   split at hk
   ·rename_i c hc
    obtain ⟨_, hk⟩ := hk
    rw [splice_nil, set_same hc] at hk
    refine ⟨_, w, h, ?_, hk, R⟩
    unfold Builtin.copy_
    simp only [slLen] at hfirst ⊢
    simp [run_underlying hu, Builtin.lenOf, sizeOf, typeInfo, hi, hmin, goInt, slLen] at hfirst ⊢
    simp [hfirst, store_nothing]
   ·exact hk.elim
  ·have hq' := hq.resolve_left hc0
   obtain ⟨w', h', g1, g2, g3⟩ := store_heap (P := P) R (p := ⟨s.b, s.o⟩) (hmm.resolve_right hc0) hr hone hk
   refine ⟨_, w', h', ?_, g2, g3⟩
   rw [← hq'] at g1
   unfold Builtin.copy_
   simp only [slLen] at hfirst ⊢
   simp [run_underlying hu, Builtin.lenOf, sizeOf, typeInfo, hi, hmin, goInt] at hfirst ⊢
   simp [hfirst, g1]
theorem relL_one {μ : Ren} {x : AV} {vs : List Value} (h : relL μ [x] vs) : ∃ v, vs = [v] ∧ x.rel μ v := by
 obtain ⟨y, ys, hl, hx, h'⟩ := h
 simp only [relL] at h'
 subst h'
 exact ⟨y, hl, hx⟩
theorem relL_two {μ : Ren} {x y : AV} {vs : List Value} (h : relL μ [x, y] vs) : ∃ v u, vs = [v, u] ∧ x.rel μ v ∧ y.rel μ u := by
 obtain ⟨v, ys, hl, hx, h'⟩ := h
 obtain ⟨u, rfl, hy⟩ := relL_one h'
 exact ⟨v, u, hl, hx, hy⟩
theorem relL_three {μ : Ren} {x y z : AV} {vs : List Value} (h : relL μ [x, y, z] vs) : ∃ v u t, vs = [v, u, t] ∧ x.rel μ v ∧ y.rel μ u ∧ z.rel μ t := by
 obtain ⟨v, ys, hl, hx, h'⟩ := h
 obtain ⟨u, t, rfl, hy, hz⟩ := relL_two h'
 exact ⟨v, u, t, hl, hx, hy, hz⟩
theorem src_slice (R : Rel μ0 h0 w0 μ lam L h w) {u e' : TypeId} (hu : P.underlying u = some (.slice e')) {sz : Nat} {s : Option SL} {v : Value} (hv : AV.rel μ (.sl s) v) {xs : List AV} (hx : slCells h s (slLen s * sz) = some xs) :
  ∃ news, Src P u sz v (slLen s) news w ∧ relL μ xs news ∧ oneAll xs = true := by
 obtain ⟨a, len, cap, news, rfl, rfl, hnl, hr, hone, ha, hn⟩ := slCells_rel R hv (by
  by_cases h0 : slLen s * sz = 0
  ·exact .inl h0
  ·right
   have : slLen s ≠ 0 := fun hc => h0 (by rw [hc]; simp)
   omega) hx
 refine ⟨news, ⟨.inl ⟨e', hu⟩, rfl, ?_⟩, hr, hone⟩
 cases a with
 | none =>
  intro w' _
  rw [hn rfl]; exact run_firstCells_none w' _ _ _ _
 | some a =>
  exact firstCells_of (w := w) hnl (ha a rfl)
theorem src_string {u : TypeId} (hu : P.underlying u = some .string) (s : List UInt8) : Src P u 1 (.string ⟨s.toArray⟩) s.length (s.map fun b => Value.int .u8 b.toNat) w := by
 refine ⟨.inr hu, by simp [Builtin.lenOf, ByteArray.size], fun w' _ => ?_⟩
 simp only [Builtin.firstCells, Sem.run_pure]
 congr 1
 apply Array.ext'
 simp [ByteArray.data_extract]
theorem isIntT_some {u : TypeId} (h : isIntT P u = true) : ∃ k, P.underlying u = some (.int k) := by
 simp only [isIntT] at h
 split at h
 ·rename_i k hk; exact ⟨k, hk⟩
 ·cases h
theorem isStrT_some {u : TypeId} (h : isStrT P u = true) : P.underlying u = some .string := by
 simp only [isStrT] at h
 split at h
 ·assumption
 ·cases h
theorem out_builtin (R : Rel μ0 h0 w0 μ lam L h w) {b : Builtin} {argT : List TypeId} {ty : TypeId} {args : List AV} {vs : List Value} (hv : relL μ args vs) (hk : vBuiltin P b argT args L h K) (cs : Array Bool) :
  ∃ v w' lv L' h' μ', (builtin b argT.toArray ty cs vs.toArray).run P w = .ok (.value v) w' ∧ K lv L' h' ∧ Rel μ0 h0 w0 μ' lam L' h' w' ∧ Ren.le μ μ' ∧ lv.rel μ' lam v := by
 have simple : ∀ {v : Value} {lv : LV} (s : Sem Value), builtin b argT.toArray ty cs vs.toArray = (do pure (.value (← s))) → s.run P w = .ok v w → K lv L h → lv.rel μ lam v →
   ∃ v w' lv L' h' μ', (builtin b argT.toArray ty cs vs.toArray).run P w = .ok (.value v) w' ∧ K lv L' h' ∧ Rel μ0 h0 w0 μ' lam L' h' w' ∧ Ren.le μ μ' ∧ lv.rel μ' lam v := by
  intro v lv s e1 e2 e3 e4
  exact ⟨v, w, lv, L, h, μ, by rw [e1, Sem.run_bind, e2]; rfl, e3, R, .refl _, e4⟩
 unfold vBuiltin at hk
 split at hk
 ·rename_i t s
  obtain ⟨v, rfl, hs⟩ := relL_one hv
  split at hk
  ·rename_i e hu
   refine simple (v := .int .i64 (slLen s)) (Builtin.len_ #[t] ty #[v]) rfl ?_ hk rfl
   cases s with
   | none => obtain rfl : v = _ := hs; simp [Builtin.len_, run_underlying hu, goInt, slLen]
   | some s => obtain ⟨m, c', q, hm, rfl, _⟩ := hs; simp [Builtin.len_, run_underlying hu, goInt, slLen]
  ·exact hk.elim
 ·rename_i t s
  obtain ⟨v, rfl, hs⟩ := relL_one hv
  obtain rfl : v = _ := hs
  split at hk
  ·rename_i hu
   exact simple (v := .int .i64 s.length) (Builtin.len_ #[t] ty #[_]) rfl (by
    have : (⟨s.toArray⟩ : ByteArray).size = s.length := by simp [ByteArray.size]
    simp only [Builtin.len_]
    simp [run_underlying hu, goInt]
    exact congrArg _ this) hk rfl
  ·exact hk.elim
 ·rename_i t m
  obtain ⟨v, rfl, hs⟩ := relL_one hv
  split at hk
  ·rename_i kt et hu
   unfold vLenM at hk
   split at hk
   rotate_left
   ·exact hk.elim
   rename_i es hes
   cases m with
   | none =>
    obtain rfl : v = _ := hs
    simp only [mapEs, Option.some.injEq] at hes
    subst hes
    exact simple (v := .int .i64 0) (Builtin.len_ #[t] ty #[_]) rfl (by simp [Builtin.len_, run_underlying hu, goInt]) hk rfl
   | some b =>
    simp only [mapEs] at hes
    split at hes
    ·rename_i es' cl hb
     cases hes
     obtain ⟨e, ES, he, rfl, h2, h3⟩ := map_block R hb hs
     have hl := h3.length
     refine simple (v := .int .i64 es.length) (Builtin.len_ #[t] ty #[_]) rfl ?_ hk rfl
     simp only [Builtin.len_]
     simp [run_underlying hu, goInt, MapKept.run_getObj_map h2]
     have : ES.size = es.length := by simpa using hl
     rw [this]
    ·cases hes
  ·exact hk.elim
 ·rename_i t u m k
  obtain ⟨v, y, rfl, hs, hx⟩ := relL_two hv
  split at hk
  ·rename_i kt et hu
   obtain ⟨w', h', g1, g2, g3⟩ := out_delete (P := P) (u := u) (ty := ty) R hu hs hx hk
   refine ⟨.tuple #[], w', .val (.tup []), L, h', μ, ?_, g2, g3, .refl _, ⟨#[], rfl, rfl⟩⟩
   show Sem.run P (do pure (Next.value (← Builtin.delete_ #[t, u] ty #[v, y]))) w = _
   rw [Sem.run_bind, g1]; rfl
  ·exact hk.elim
 ·rename_i t s
  obtain ⟨v, rfl, hs⟩ := relL_one hv
  split at hk
  ·exact hk.elim
  ·rename_i e he
   have hu := telem_some he
   have done : ∀ {w' : World} {h' : Heap}, (Builtin.clear_ #[t] ty #[v]).run P w = .ok (.tuple #[]) w' → K (.val (.tup [])) L h' → Rel μ0 h0 w0 μ lam L h' w' →
     ∃ v1 w' lv L' h' μ', (builtin .clear #[t] ty cs #[v]).run P w = .ok (.value v1) w' ∧ K lv L' h' ∧ Rel μ0 h0 w0 μ' lam L' h' w' ∧ Ren.le μ μ' ∧ lv.rel μ' lam v1 := by
    intro w' h' g1 g2 g3
    refine ⟨.tuple #[], w', .val (.tup []), L, h', μ, ?_, g2, g3, .refl _, ⟨#[], rfl, rfl⟩⟩
    show Sem.run P (do pure (Next.value (← Builtin.clear_ #[t] ty #[v]))) w = _
    rw [Sem.run_bind, g1]; rfl
   split at hk
   ·exact hk.elim
   rename_i zs hz
   cases s with
   | none =>
    obtain rfl : v = _ := hs
    exact done (by simp [Builtin.clear_, run_underlying hu]) hk R
   | some s =>
    obtain ⟨m, c', q, hm, rfl, hlc, hq, hx1, hx2⟩ := hs
    simp only [PClear] at hk
    split at hk
    ·rename_i hlen
     exact done (by simp [Builtin.clear_, run_underlying hu, hlen]) hk R
    ·rename_i n hlen
     obtain ⟨hone, hk⟩ := need_elim hk
     have hc0 : c' ≠ 0 := by
      have : s.cap ≤ c' := by
       by_cases ho : s.opn = 0
       ·rw [hx1 ho]; exact Nat.le_refl _
       ·exact (hx2 ho).1
      omega
     have hq' := hq.resolve_left hc0
     obtain ⟨zv, hzr, hzc, hzl⟩ := zcells_zero hz w μ
     have hz2 : (Builtin.zeroCells zv.cells (n + 1)).toList = (List.replicate (n + 1) zv.cells.toList).flatten := by
      unfold Builtin.zeroCells
      exact zeros_list _ _
     have hone' : oneAll (List.replicate (n + 1) zs).flatten = true := by
      simp only [oneAll, List.all_eq_true] at hone ⊢
      intro x hx
      obtain ⟨l, hl1, hl2⟩ := List.mem_flatten.1 hx
      rw [(List.mem_replicate.1 hl1).2] at hl2
      exact hone x hl2
     obtain ⟨w', h', g1, g2, g3⟩ := store_heap (P := P) R (p := ⟨s.b, s.o⟩) (hm.resolve_right hc0) (relL.replicate hzc (n + 1)) hone' hk
     refine done ?_ g2 g3
     simp only [Builtin.clear_]
     simp [run_underlying hu, hlen]
     rw [hzr]
     simp only [Result.andThen_ok]
     rw [hz2, hq', g1]
     rfl
 ·rename_i t s
  obtain ⟨v, rfl, hs⟩ := relL_one hv
  split at hk
  ·rename_i e hu
   obtain rfl : v = _ := hs
   exact simple (v := .int .i64 0) (Builtin.cap_ #[t] ty #[_]) rfl (by simp [Builtin.cap_, run_underlying hu, goInt]) hk rfl
  ·rename_i e s hu
   obtain ⟨hop, hk⟩ := hk
   obtain ⟨m, c', q, hm, rfl, hlc, hq, hx1, hx2⟩ := hs
   have := hx1 hop
   subst this
   exact simple (v := .int .i64 s.cap) (Builtin.cap_ #[t] ty #[_]) rfl (by simp [Builtin.cap_, run_underlying hu, goInt]) hk rfl
  ·exact hk.elim
 ·rename_i t u s x
  obtain ⟨v, y, rfl, hs, hx⟩ := relL_two hv
  split at hk
  ·exact hk.elim
  ·rename_i e he
   split at hk
   ·exact hk.elim
   ·rename_i zs hz
    have hu := telem_some he
    have hby := (need_elim hk).1
    replace hk := (need_elim hk).2
    simp at hby
    have fin : ∀ {n : Nat} {xs : List AV} {news : List Value}, (∀ i zv, P.info? e = some i → i.zero = some zv → App P t u ty e i zv y n news w) → relL μ xs news → oneAll xs = true →
      (PAppend (tsz P e) (tbytes P e) s n xs h fun s' h' => K (.val (.sl s')) L h') →
      ∃ v' w' lv L' h' μ', (builtin .append #[t, u] ty cs #[v, y]).run P w = .ok (.value v') w' ∧ K lv L' h' ∧ Rel μ0 h0 w0 μ' lam L' h' w' ∧ Ren.le μ μ' ∧ lv.rel μ' lam v' := by
     intro n xs news hA hr ho hkk
     obtain ⟨v', w', s', h', μ', g1, g2, g3, g4, g5⟩ := out_append (P := P) (ty := ty) R he hz hA hr ho hs hby hkk
     refine ⟨v', w', .val (.sl s'), L, h', μ', ?_, g2, g3, g4, g5⟩
     show Sem.run P (do pure (Next.value (← Builtin.append_ #[t, u] ty #[v, y]))) w = _
     rw [Sem.run_bind, g1]; rfl
    split at hk
    ·rename_i k n hint
     obtain ⟨ho, g1, g2, g3, hk⟩ := need_elim hk
     obtain rfl : y = _ := hx
     obtain ⟨nn, rfl⟩ := int_nat g1
     obtain ⟨k', hu'⟩ := isIntT_some hint
     obtain ⟨zv, hzr, hzc, hzl⟩ := zcells_zero hz w μ
     have hn2 : nn * tbytes P e ≤ 140737488355328 := by
      have : ((nn * tbytes P e : Nat) : Int) ≤ 140737488355328 := by rw [Int.natCast_mul]; exact g3
      omega
     have hone : oneAll (List.replicate nn zs).flatten = true := by
      simp only [oneAll, List.all_eq_true] at ho ⊢
      intro x hx
      simp at hx
      obtain ⟨_, ⟨_, rfl⟩, hx⟩ := hx
      exact ho x hx
     refine fin (n := nn) (news := (List.replicate nn zv.cells.toList).flatten) ?_ (relL.replicate hzc nn) hone (by simpa using hk)
     intro i zv' hi hzi
     have hzv : zv' = zv := by
      simp only [zeroValue, typeInfo, Sem.run_bind, run_program, Result.andThen_ok, hi, hzi, Sem.run_pure, Result.ok.injEq, and_true] at hzr
      exact hzr
     subst hzv
     have hby' : tbytes P e = i.bytes := by simp [tbytes, Program.bytesOf, hi]
     have hsz : zv'.cells.size = i.size := by have := hzc.length; simp at this; rw [this, hzl]; exact tsz_info hi
     have hzl' : (Builtin.zeroCells zv'.cells nn).toList = (List.replicate nn zv'.cells.toList).flatten := by
      unfold Builtin.zeroCells
      exact zeros_list _ _
     rw [hby'] at hn2
     refine ⟨fun hf hst => run_zeros_fit hu hu' hi hzi (by omega) (by simp [maxI] at g2; omega) hf hsz (by rw [hzl']; exact hst), fun hg hb hm hold => ?_⟩
     have := run_zeros_new (P := P) (ty := ty) (k := k) hu hu' hi hzi (n := nn) (by omega) (by simp [maxI] at g2; omega) hg hb hm hsz hold
     rw [hzl'] at this
     exact this
    ·rename_i src hint
     obtain ⟨hte, xs, hxs, hk⟩ := need_elim hk
     obtain ⟨e', he'⟩ := Option.isSome_iff_exists.1 hte
     obtain ⟨news, S, hr, hone⟩ := src_slice R (telem_some he') hx hxs
     refine fin ?_ hr hone hk
     intro i zv hi hzi
     rw [tsz_info hi] at S
     exact App.of_src hu hi hzi S
    ·rename_i src hint
     obtain ⟨h1, hk⟩ := need_elim hk
     simp only [Bool.and_eq_true, beq_iff_eq] at h1
     obtain ⟨h1, h2⟩ := h1
     obtain rfl : y = _ := hx
     have hus := isStrT_some h1
     refine fin (news := src.map fun b => Value.int .u8 b.toNat) ?_ (relL_bytes_mk src) (oneAll_bytes src) (by rw [h2]; exact hk)
     intro i zv hi hzi
     have S := src_string (P := P) (w := w) hus src
     rw [← h2, tsz_info hi] at S
     exact App.of_src hu hi hzi S
    ·exact hk.elim
 ·rename_i t u s src
  obtain ⟨v, y, rfl, hs, hx⟩ := relL_two hv
  split at hk
  ·exact hk.elim
  ·rename_i e he
   obtain ⟨h1, hk⟩ := need_elim hk
   obtain ⟨i, hi⟩ := Option.isSome_iff_exists.1 h1
   obtain ⟨n, w', h', g1, g2, g3⟩ := out_copy (P := P) (u := u) (ty := ty) R he hs hx hi hk
   refine ⟨.int .i64 n, w', _, L, h', μ, ?_, g2, g3, .refl _, rfl⟩
   show Sem.run P (do pure (Next.value (← Builtin.copy_ #[t, u] ty #[v, y]))) w = _
   rw [Sem.run_bind, g1]; rfl
 ·unfold minL at hk
  split at hk
  ·obtain ⟨v, rfl, hx⟩ := relL_one hv
   obtain rfl : v = _ := hx
   refine simple (Builtin.min_ argT.toArray ty #[_]) rfl ?_ hk rfl
   simp [Builtin.min_]
  ·rename_i k a k' b
   obtain ⟨h1, hk⟩ := need_elim hk
   obtain ⟨v, y, rfl, hx, hy⟩ := relL_two hv
   obtain rfl : v = _ := hx
   obtain rfl : y = _ := hy
   refine simple (v := .int k (minI a b)) (Builtin.min_ argT.toArray ty #[_, _]) rfl ?_ hk rfl
   simp [Builtin.min_, Builtin.min2, minI]
  ·rename_i k a k' b k2 c
   obtain ⟨h1, hk⟩ := need_elim hk
   obtain ⟨v, y, z, rfl, hx, hy, hz⟩ := relL_three hv
   obtain rfl : v = _ := hx
   obtain rfl : y = _ := hy
   obtain rfl : z = _ := hz
   refine simple (v := .int k (minI (minI a b) c)) (Builtin.min_ argT.toArray ty #[_, _, _]) rfl ?_ hk rfl
   simp only [minI]
   by_cases h1 : b < a <;> by_cases h2 : c < b <;> by_cases h3 : c < a <;> simp [Builtin.min_, Builtin.min2, h1, h2, h3]
  ·exact hk.elim
 ·unfold maxL at hk
  split at hk
  ·obtain ⟨v, rfl, hx⟩ := relL_one hv
   obtain rfl : v = _ := hx
   refine simple (Builtin.max_ argT.toArray ty #[_]) rfl ?_ hk rfl
   simp [Builtin.max_]
  ·rename_i k a k' b
   obtain ⟨h1, hk⟩ := need_elim hk
   obtain ⟨v, y, rfl, hx, hy⟩ := relL_two hv
   obtain rfl : v = _ := hx
   obtain rfl : y = _ := hy
   refine simple (v := .int k (maxI2 a b)) (Builtin.max_ argT.toArray ty #[_, _]) rfl ?_ hk rfl
   simp [Builtin.max_, Builtin.max2, maxI2]
  ·exact hk.elim
 ·exact hk.elim
end
theorem exT_ex : ∀ {zs : List AV} {KL : List AV → Prop}, exT zs KL → ∃ l, KL l
 | [], KL, h => ⟨[], h⟩
 | z :: zs, KL, h => by
  cases z <;> simp only [exT] at h
  all_goals
   obtain ⟨l, h1, _, _⟩ := exL_elim h
   obtain ⟨r, h2⟩ := exT_ex h1
   exact ⟨_, h2⟩
theorem exV_ex {z : AV} {KV : AV → Prop} (h : exV z KV) : ∃ u, KV u := by
 by_cases hz : ∃ c, z = .tup c
 ·obtain ⟨c, rfl⟩ := hz
  obtain ⟨l, hl⟩ := exT_ex h
  exact ⟨_, hl⟩
 ·obtain ⟨u, hu, _⟩ := exV_elim (fun c hc => hz ⟨c, hc⟩) h
  exact ⟨u, hu⟩
theorem exL_mono : ∀ {zs : List AV} {A B : List AV → Prop}, (∀ l, A l → B l) → exL zs A → exL zs B
 | [], A, B, hm, h => hm _ h
 | z :: zs, A, B, hm, h => by
  cases z <;> simp only [exL] at h ⊢
  case int => obtain ⟨n, h⟩ := h; exact ⟨n, exL_mono (fun l => hm _) h⟩
  case bool => obtain ⟨n, h⟩ := h; exact ⟨n, exL_mono (fun l => hm _) h⟩
  case str => obtain ⟨n, h⟩ := h; exact ⟨n, exL_mono (fun l => hm _) h⟩
  case ptr => obtain ⟨n, h⟩ := h; exact ⟨n, exL_mono (fun l => hm _) h⟩
  case sl => obtain ⟨n, h⟩ := h; exact ⟨n, exL_mono (fun l => hm _) h⟩
  case map => obtain ⟨n, h⟩ := h; exact ⟨n, exL_mono (fun l => hm _) h⟩
  all_goals obtain ⟨n, h1, h⟩ := h; exact ⟨n, h1, exL_mono (fun l => hm _) h⟩
theorem exT_mono : ∀ {zs : List AV} {A B : List AV → Prop}, (∀ l, A l → B l) → exT zs A → exT zs B
 | [], A, B, hm, h => hm _ h
 | z :: zs, A, B, hm, h => by
  cases z <;> simp only [exT] at h ⊢
  all_goals exact exL_mono (fun l hl => exT_mono (fun r => hm _) hl) h
theorem exV_mono {z : AV} {A B : AV → Prop} (hm : ∀ l, A l → B l) (h : exV z A) : exV z B := by
 cases z <;> simp only [exV] at h ⊢
 case agg => exact exL_mono (fun l => hm _) h
 case tup => exact exT_mono (fun l => hm _) h
 all_goals
  refine exL_mono (fun l hl => ?_) h
  split at hl
  ·exact hm _ hl
  ·exact hl.elim
theorem exV_at {z v : AV} {K : AV → Prop} (h : exV z fun u => v = u ∧ K u) : K v := by
 obtain ⟨u, rfl, hu⟩ := exV_ex h
 exact hu
theorem keyIs_mono {P : Program} {kt : TypeId} {a b : AV} {A B : Bool → Prop} (hm : ∀ x, A x → B x) (h : keyIs P kt a b A) : keyIs P kt a b B := by
 unfold keyIs at h ⊢
 generalize P.underlying kt = d at h ⊢
 split at h
 ·obtain ⟨h1, h2⟩ := need_elim h
  simp only [h1, need]; exact hm _ h2
 ·exact hm _ h
 ·exact hm _ h
 ·split at h
  ·exact hm _ h
  ·exact h.elim
 ·split at h
  ·exact hm _ h
  ·exact h.elim
 ·exact h.elim
theorem findP_mono {P : Program} {kt : TypeId} {k : AV} : ∀ {es : List (AV × AV × Nat)} {i : Nat} {A B : Option (Nat × AV × Nat) → Prop}, (∀ r, A r → B r) → findP P kt k es i A → findP P kt k es i B
 | [], i, A, B, hm, h => hm _ h
 | (k', v, n) :: es, i, A, B, hm, h => by
  simp only [findP] at h ⊢
  refine keyIs_mono (fun b hb => ?_) h
  cases b
  ·exact findP_mono hm hb
  ·exact hm _ hb
theorem PLookup_mono {P : Program} {kt et : TypeId} {m : Option Nat} {k : AV} {ok : Bool} {h : Heap} {A B : AV → Prop} (hm : ∀ v, A v → B v) (hk : PLookup P kt et m k ok h A) : PLookup P kt et m k ok h B := by
 unfold PLookup at hk ⊢
 split at hk
 ·obtain ⟨h1, hk⟩ := need_elim hk
  simp only [h1, need]
  exact findP_mono (fun r => hm _) hk
 ·exact hk.elim
theorem PEntry_mono {b : Nat} {h : Heap} {A B : AV → Prop} (hm : ∀ v, A v → B v) (hk : PEntry b h A) : PEntry b h B := by
 unfold PEntry at hk ⊢
 split at hk
 ·split at hk
  ·obtain ⟨h1, hk⟩ := need_elim hk
   simp only [h1, need]
   split at hk
   ·exact hm _ hk
   ·exact hk.elim
  ·exact hk.elim
 ·exact hk.elim
section
variable {P : Program} {μ0 : Ren} {h0 : Heap} {w0 : World} {μ : Ren} {lam : List Nat} {L : Locs} {h : Heap} {w : World} {K : KO}
abbrev NextOK (μ0 : Ren) (h0 : Heap) (w0 : World) (μ : Ren) (lam : List Nat) (K : KO) (d : Option Tmp) (a : Act) (next : Act → World → Prop) : Prop :=
 ∀ (lv : LV) (L' : Locs) (h' : Heap) (μ' : Ren) (lam' : List Nat) (v : Value) (w' : World), K lv L' h' → Rel μ0 h0 w0 μ' lam' L' h' w' → Ren.le μ μ' → lamLe lam lam' → lv.rel μ' lam' v → next (a.put d v) w'
theorem enc1 {n : Int} (h0 : 0 ≤ n) (h1 : n < 128) : Utf8.encode n = ⟨[UInt8.ofNat n.toNat].toArray⟩ := by
 have hv : Utf8.valid n = true := by
  unfold Utf8.valid
  have e1 : decide (0 ≤ n) = true := decide_eq_true h0
  have e2 : decide (n < 0xD800) = true := decide_eq_true (by omega)
  rw [e1, e2]; rfl
 unfold Utf8.encode
 simp only [hv, if_true]
 rw [if_pos (by omega)]
theorem wp_of_out {o : Oper} {a : Act} {next : Act → World → Prop} {Q : Exit → Act → World → Prop} {s : Sem Value} (H : Out P μ0 h0 w0 μ lam w s K) (he : execOp a.eval o = (do pure (.value (← s)))) (hn : NextOK μ0 h0 w0 μ lam K o.dst a next) :
  o.wp P a w next Q := by
 obtain ⟨v, w', lv, L', h', μ', lam', hr, hk, R', h1, h2, hv⟩ := H
 unfold Oper.wp
 rw [he, Sem.run_bind, hr]
 exact hn _ _ _ _ _ _ _ hk R' h1 h2 hv
theorem wp_of_call {o : Oper} {a : Act} {next : Act → World → Prop} {Q : Exit → Act → World → Prop} (R : Rel μ0 h0 w0 μ lam L h w) {g : FuncId} {args : List AV} {vs : List Value} (hv : relL μ args vs) {z : AV}
  (H : AC P g args h fun v h' => exV z fun u => v = u ∧ K (.val u) L h') (he : (execOp a.eval o).run P w = .ok (.enter g vs.toArray) w) (hn : NextOK μ0 h0 w0 μ lam K o.dst a next) :
  o.wp P a w next Q := by
 unfold Oper.wp
 rw [he]
 refine (H.2 μ w vs R.heap hv).mono fun e w' ⟨v, x, h', μ', hx, hq, hev, hh, hr⟩ => ?_
 subst hx
 obtain ⟨u, rfl, hk⟩ := exV_ex hq
 exact hn _ _ _ _ _ _ _ hk (R.call hev hh) hev.le (lamLe.refl _) hr
theorem run_method {t : TypeId} {v : Value} {name : String} {g : FuncId} (hm : methodOf P t name = some g) : ∀ n, (method (n + 1) t v name).run P w = .ok (g, v) w := by
 intro n
 simp only [methodOf] at hm
 split at hm
 ·cases hm
 ·rename_i i hi
  split at hm
  ·rename_i m hf
   split at hm
   ·rename_i hp
    have hpath : m.path.toList = [] := by simpa using hp
    unfold method
    have hti : (typeInfo t).run P w = .ok i w := by simp [typeInfo, hi]
    rw [Sem.run_bind, hti]
    simp only [Result.andThen_ok, hf]
    rw [Sem.run_bind, hpath]
    simp only [follow, Sem.run_pure, Result.andThen_ok]
    split at hm
    ·rename_i g' e hfn hu
     cases hm
     simp only [hfn, Sem.run_bind]
     unfold receiverAt
     rw [Sem.run_bind, run_underlying hu]
     simp [Place.get]
    ·cases hm
    ·rename_i g' d hfn hu hne
     cases hm
     simp only [hu, Sem.run_bind]
     unfold receiverAt
     rw [Sem.run_bind, run_underlying hne]
     simp [Place.get]
    ·cases hm
   ·cases hm
  ·cases hm
theorem run_methodAt {t e : TypeId} {r : Addr} {name : String} {g : FuncId} (hm : methodAt P t name = some (g, e)) {v : Value} (hl : (loadVar e r).run P w = .ok v w) : ∀ n, (method (n + 1) t (.pointer (some r)) name).run P w = .ok (g, v) w := by
 intro n
 simp only [methodAt] at hm
 split at hm
 ·cases hm
 ·rename_i i hi
  split at hm
  ·rename_i m hf
   split at hm
   ·rename_i hp
    have hpath : m.path.toList = [] := by simpa using hp
    unfold method
    have hti : (typeInfo t).run P w = .ok i w := by simp [typeInfo, hi]
    rw [Sem.run_bind, hti]
    simp only [Result.andThen_ok, hf]
    rw [Sem.run_bind, hpath]
    simp only [follow, Sem.run_pure, Result.andThen_ok]
    split at hm
    ·rename_i g' e' hfn hu
     cases hm
     simp only [hfn, Sem.run_bind]
     unfold receiverAt
     rw [Sem.run_bind, run_underlying hu]
     simp only [Result.andThen_ok, Place.get, hp, if_true]
     have : ∀ s, (Builtin.ssaWrapNilChk_ #[t] t #[.pointer (some r), strVal "", strVal s]).run P w = .ok (.pointer (some r)) w := by
      intro s
      rfl
     have hadr : (asAddr (.pointer (some r))).run P w = .ok r w := rfl
     simp [this, hadr, hl]
    ·cases hm
   ·cases hm
  ·cases hm
theorem wp_invoke {o : Oper} {a : Act} {next : Act → World → Prop} {Q : Exit → Act → World → Prop} (R : Rel μ0 h0 w0 μ lam L h w) {g : AV} {vg : Value} (hgv : g.rel μ vg) {args : List AV} {vs : List Value} (hvs : relL μ args vs) {name : String} {z : AV}
  (hk : vInvoke P (AC P) g name args h fun v h' => exV z fun u => v = u ∧ K (.val u) L h')
  (he : (execOp a.eval o).run P w = (callMethod vg name vs.toArray).run P w) (hn : NextOK μ0 h0 w0 μ lam K o.dst a next) : o.wp P a w next Q := by
 unfold vInvoke at hk
 split at hk
 ·rename_i t v
  have fin : ∀ {g' : FuncId} {x : AV} {y0 y : Value}, vg = .iface t y0 → x.rel μ y → (match Nat.beq g' 1000000000 with | true => False | false => AC P g' (x :: args) h (fun v h' => exV z fun u => v = u ∧ K (.val u) L h')) → (∀ n, (method (n + 1) t y0 name).run P w = .ok (g', y) w) → o.wp P a w next Q := by
   intro g' x y0 y hv hy hk hmeth
   replace hk : AC P g' (x :: args) h (fun v h' => exV z fun u => v = u ∧ K (.val u) L h') := by
    split at hk
    ·exact hk.elim
    ·exact hk
   refine wp_of_call (vs := y :: vs) R (show relL μ (x :: args) _ from ⟨_, _, rfl, hy, hvs⟩) hk ?_ hn
   rw [he, hv]
   unfold callMethod
   rw [Sem.run_bind, run_program]
   simp only [Result.andThen_ok]
   have hmm := hmeth (P.types.size + 99)
   rw [Sem.run_bind, show P.types.size + Made.depth = P.types.size + 99 + 1 from rfl, hmm]
   simp only [Result.andThen_ok]
   rw [run_callFunc hk.1]
   have : #[y] ++ vs.toArray = (y :: vs).toArray := by apply Array.ext'; simp
   rw [this]
  obtain ⟨y, hv, hy⟩ := hgv
  split at hk
  ·rename_i g' hm
   exact fin hv hy hk fun n => run_method hm n
  ·rename_i hm
   split at hk
   ·rename_i g' e p hma
    split at hk
    ·rename_i z' hz'
     split at hk
     ·rename_i hok
      obtain ⟨e', he', rfl⟩ := hy
      obtain ⟨c1, rw1, hc1, hpart⟩ := PLoad_part (okTy_parts hok).2.2.2 hk
      obtain ⟨C, t', fz, q1, q2, q3, q4, q5, q6⟩ := R.heap.blk _ _ _ hc1 he'
      obtain ⟨i, zv, hi, _, _⟩ := tz_info hz'
      obtain ⟨v', x, l1, l2, l3⟩ := load_part (P := P) q1 q5 hz' hok hpart
      exact fin hv l3 l2 fun n => run_methodAt hma l1 n
     ·exact hk.elim
    ·exact hk.elim
   ·exact hk.elim
 ·exact hk.elim
theorem vop_wp {isLoc : Nat → Bool} {o : Oper} {ρ : List LV} {a : Act} {next : Act → World → Prop} {Q : Exit → Act → World → Prop} (R : Rel μ0 h0 w0 μ lam L h w) (E : EnvRel μ lam ρ a.tmps)
  (hk : vop P isLoc (AC P) o ρ L h K) (hn : NextOK μ0 h0 w0 μ lam K o.dst a next) : o.wp P a w next Q := by
 have ex : ∀ op, o.op = op → execOp a.eval o = execOp a.eval { o with op := op } := by intro op h; subst h; rfl
 unfold vop at hk
 split at hk
 ·rename_i x ho
  unfold Oper.wp
  rw [ex _ ho]
  exact hn _ _ _ _ _ _ _ hk R (.refl _) (lamLe.refl _) (E.ev x)
 ·rename_i x ho
  unfold Oper.wp
  rw [ex _ ho]
  exact hn _ _ _ _ _ _ _ hk R (.refl _) (lamLe.refl _) (E.ev x)
 ·rename_i c x y ho
  split at hk
  ·rename_i t hc
   have hcv : a.eval c = _ := E.val hc
   unfold Oper.wp
   rw [ex _ ho]
   rcases vif_elim hk with ⟨rfl, hk⟩ | ⟨rfl, hk⟩
   ·have : (execOp a.eval { o with op := .pick c x y }).run P w = .ok (.value (a.eval x)) w := by simp [execOp, hcv, asBool]
    rw [this]
    exact hn _ _ _ _ _ _ _ hk R (.refl _) (lamLe.refl _) (E.ev x)
   ·have : (execOp a.eval { o with op := .pick c x y }).run P w = .ok (.value (a.eval y)) w := by simp [execOp, hcv, asBool]
    rw [this]
    exact hn _ _ _ _ _ _ _ hk R (.refl _) (lamLe.refl _) (E.ev y)
  ·exact hk.elim
 ·rename_i t ho
  split at hk
  ·rename_i zs d hz hd
   exact wp_of_out (out_alloc R hz hk) (ex _ ho) hn
  ·exact hk.elim
 ·rename_i t x ho
  split at hk
  ·exact hk.elim
  ·rename_i v d hne hx hd
   exact wp_of_out (out_box R (E.val hx) (fun c hc => hne c (by rw [hc])) hk) (ex _ ho) hn
  ·exact hk.elim
 ·rename_i t x ho
  exact wp_of_out (out_load R E hk) (ex _ ho) hn
 ·rename_i t xa x ho
  split at hk
  ·rename_i v hx
   obtain ⟨h1, hk⟩ := need_elim hk
   obtain ⟨w', L', h', g1, g2, g3⟩ := out_store R E hx h1 hk
   unfold Oper.wp
   rw [ex _ ho]
   have : (execOp a.eval { o with op := .store t xa x }).run P w = .ok .skip w' := by
    show Sem.run P (do Instr.storeAt t (a.eval xa) (a.eval x); pure Next.skip) w = _
    rw [Sem.run_bind, g1]; rfl
   rw [this]
   exact hn _ _ _ _ _ _ _ g2 g3 (.refl _) (lamLe.refl _) trivial
  ·exact hk.elim
 ·rename_i x ho
  obtain ⟨lv, g1, g2, g3⟩ := out_nilCheck R E hk o ho
  unfold Oper.wp
  rw [g1]
  exact hn _ _ _ _ _ _ _ g2 R (.refl _) (lamLe.refl _) g3
 ·rename_i op t x y yt ho
  split at hk
  ·rename_i xv yv hx hy
   exact wp_of_out (out_bin R (E.val hx) (E.val hy) hk) (ex _ ho) hn
  ·exact hk.elim
 ·rename_i op t x ho
  split at hk
  ·rename_i xv hx
   exact wp_of_out (out_un R (E.val hx) hk) (ex _ ho) hn
  ·exact hk.elim
 ·rename_i src dst x ho
  split at hk
  ·rename_i sd k k' n hs hd hx
   have hv : a.eval x = _ := E.val hx
   refine wp_of_out (s := convert src dst (a.eval x)) (Out.same R (v := .int k (wrapK k n)) ?_ hk rfl) (ex _ ho) hn
   rw [hv]
   unfold convert
   rw [Sem.run_bind, run_underlying hs]
   simp only [Result.andThen_ok]
   rw [Sem.run_bind, run_underlying hd]
   simp [Conv.intToInt, wrapK]
  ·rename_i s hs hd hx
   have hv : a.eval x = _ := E.val hx
   refine wp_of_out (s := convert src dst (a.eval x)) (Out.same R (v := .string ⟨s.toArray⟩) ?_ hk rfl) (ex _ ho) hn
   rw [hv]
   unfold convert
   rw [Sem.run_bind, run_underlying hs]
   simp only [Result.andThen_ok]
   rw [Sem.run_bind, run_underlying hd]
   rfl
  ·rename_i k1 k2 n hs hd hx
   obtain ⟨h1, hk⟩ := need_elim hk
   rw [Bool.and_eq_true] at h1
   have n0 := of_decide_eq_true h1.1
   have n1 := of_decide_eq_true h1.2
   have hv : a.eval x = _ := E.val hx
   refine wp_of_out (s := convert src dst (a.eval x)) (Out.same R (v := .string ⟨[UInt8.ofNat n.toNat].toArray⟩) ?_ hk rfl) (ex _ ho) hn
   rw [hv]
   unfold convert
   rw [Sem.run_bind, run_underlying hs]
   simp only [Result.andThen_ok]
   rw [Sem.run_bind, run_underlying hd]
   show (Conv.intToString n).run P w = _
   unfold Conv.intToString
   rw [enc1 n0 n1]; rfl
  ·rename_i e s hs hd hx
   obtain ⟨he, hk⟩ := need_elim hk
   exact wp_of_out (out_bytesToString R hs hd he (E.val hx) hk) (ex _ ho) hn
  ·rename_i e s hs hd hx
   obtain ⟨he, hle, hk⟩ := need_elim hk
   have hv : a.eval x = _ := E.val hx
   exact wp_of_out (s := convert src dst (a.eval x)) (by rw [hv]; exact out_stringToBytes R hs hd he hle hk) (ex _ ho) hn
  ·exact hk.elim
 ·rename_i s x f ho
  exact wp_of_out (out_fieldAddr R E hk) (ex _ ho) hn
 ·rename_i s x f ho
  exact wp_of_out (out_field R E hk) (ex _ ho) hn
 ·rename_i t x ix ho
  exact wp_of_out (out_indexAddr R E hk) (ex _ ho) hn
 ·rename_i t x ix ho
  exact wp_of_out (out_index R E hk) (ex _ ho) hn
 ·rename_i t ps ho
  exact wp_of_out (out_build R E hk) (ex _ ho) hn
 ·rename_i t n ps ho
  exact wp_of_out (out_buildSlice R E hk) (ex _ ho) hn
 ·rename_i t x lo hi mx ho
  exact wp_of_out (out_slice R E hk) (ex _ ho) hn
 ·rename_i t l c ho
  split at hk
  ·exact hk.elim
  ·rename_i e he
   split at hk
   ·rename_i zs n m hz hl hc
    obtain ⟨h1, hk⟩ := need_elim hk
    obtain ⟨kl, hl'⟩ := E.int hl
    obtain ⟨kc, hc'⟩ := E.int hc
    exact wp_of_out (s := Instr.makeSlice t (a.eval l) (a.eval c)) (by rw [hl', hc']; exact out_make R he hz h1 hk) (ex _ ho) hn
   ·exact hk.elim
 ·rename_i t x ho
  split at hk
  ·rename_i n e s0 hu hx
   unfold vSl at hk
   split at hk
   rotate_left
   ·exact hk.elim
   rename_i s
   obtain ⟨h1, hk⟩ := need_elim hk
   simp only [Bool.and_eq_true, decide_eq_true_eq] at h1
   obtain ⟨m, c', q, hm, hv, hlc, hq, hx1, hx2⟩ := E.val hx
   have hc0 : c' ≠ 0 := by
    have : s.cap ≤ c' := by
     by_cases ho : s.opn = 0
     ·rw [hx1 ho]; exact Nat.le_refl _
     ·exact (hx2 ho).1
    omega
   have hq' := hq.resolve_left hc0
   refine wp_of_out (s := Instr.arrayAt t (a.eval x)) (Out.same R (v := .pointer (some ⟨m.r, m.s + s.o, none⟩)) ?_ hk ⟨m, hm.resolve_right hc0, rfl⟩) (ex _ ho) hn
   rw [hv, hq']
   have hnot : ¬ s.len < n := by omega
   simp [Instr.arrayAt, run_underlying hu, hnot]
  ·exact hk.elim
 ·rename_i t r ho
  split at hk
  ·exact wp_of_out (s := Instr.makeMap t none) (out_makeMap R hk) (ex _ ho) hn
  ·exact hk.elim
 ·rename_i t x ix ok ho
  split at hk
  ·rename_i kt et m k z hu hx hix hz
   exact wp_of_out (out_lookup R hu (E.val hx) (E.val hix) (PLookup_mono (fun v hv => exV_at hv) hk)) (ex _ ho) hn
  ·exact hk.elim
 ·rename_i t m k x ho
  split at hk
  ·rename_i kt et m' kk v hu hm hkk hx
   unfold vMap at hk
   split at hk
   rotate_left
   ·exact hk.elim
   rename_i b
   obtain ⟨w', h', g1, g2, g3⟩ := out_update R hu (E.val hm) (E.val hkk) (E.val hx) hk
   unfold Oper.wp
   rw [ex _ ho]
   have : (execOp a.eval { o with op := .mapUpdate t m k x }).run P w = .ok .skip w' := by
    show Sem.run P (do Instr.mapUpdate t (a.eval m) (a.eval k) (a.eval x); pure Next.skip) w = _
    rw [Sem.run_bind, g1]; rfl
   rw [this]
   exact hn _ _ _ _ _ _ _ g2 g3 (.refl _) (lamLe.refl _) trivial
  ·exact hk.elim
 ·rename_i t m k x ho
  split at hk
  ·rename_i kt et m' kk v hu hm hkk hx
   unfold vMap at hk
   split at hk
   rotate_left
   ·exact hk.elim
   rename_i b
   obtain ⟨w', h', g1, g2, g3⟩ := out_update R hu (E.val hm) (E.val hkk) (E.val hx) hk
   unfold Oper.wp
   rw [ex _ ho]
   have : (execOp a.eval { o with op := .insert t m k x }).run P w = .ok .skip w' := by
    show Sem.run P (do Instr.mapUpdate t (a.eval m) (a.eval k) (a.eval x); pure Next.skip) w = _
    rw [Sem.run_bind, g1]; rfl
   rw [this]
   exact hn _ _ _ _ _ _ _ g2 g3 (.refl _) (lamLe.refl _) trivial
  ·exact hk.elim
 ·rename_i t m k ho
  split at hk
  ·rename_i kt et m' kk hu hm hkk
   unfold vMap at hk
   split at hk
   rotate_left
   ·exact hk.elim
   rename_i b
   obtain ⟨w', h', v, n, y, g1, g2, g4, g3⟩ := out_mapEntry R hu (E.val hm) (E.val hkk) hk
   unfold Oper.wp
   rw [ex _ ho]
   have : (execOp a.eval { o with op := .mapEntry t m k }).run P w = .ok (.value y) w' := by
    show Sem.run P (do pure (Next.value (← Instr.mapEntry t (a.eval m) (a.eval k)))) w = _
    rw [Sem.run_bind, g1]; rfl
   rw [this]
   exact hn _ _ _ _ _ _ _ g2 g3 (.refl _) (lamLe.refl _) g4
  ·exact hk.elim
 ·rename_i t m s x ho
  split at hk
  ·rename_i m' kk n v hm hs hx
   unfold vMap at hk
   split at hk
   rotate_left
   ·exact hk.elim
   rename_i b
   have hsv : a.eval s = .int kk n := E.val hs
   obtain ⟨w', h', g1, g2, g3⟩ := out_entryStore (t := t) R (E.val hm) (kk := kk) (E.val hx) hk
   unfold Oper.wp
   rw [ex _ ho]
   have : (execOp a.eval { o with op := .entryStore t m s x }).run P w = .ok .skip w' := by
    show Sem.run P (do Instr.entryStore t (a.eval m) (a.eval s) (a.eval x); pure Next.skip) w = _
    rw [hsv, Sem.run_bind, g1]; rfl
   rw [this]
   exact hn _ _ _ _ _ _ _ g2 g3 (.refl _) (lamLe.refl _) trivial
  ·exact hk.elim
 ·rename_i t x ho
  split at hk
  ·rename_i kt et m hu hx
   exact wp_of_out (out_range R hu (E.val hx) (m := m) hk) (ex _ ho) hn
  ·exact hk.elim
 ·rename_i x isS ho
  split at hk
  ·rename_i p hx
   obtain ⟨h1, hk⟩ := need_elim hk
   have h1' : p.o = 0 := of_decide_eq_true h1
   have hp : p = ⟨p.b, 0⟩ := by cases p; simp_all
   have hv := E.val hx
   rw [hp] at hv
   have hk : PNext p.b h fun v h' => K (.val v) L h' := hk
   exact wp_of_out (out_next (ty := o.type) R hv hk) (ex _ ho) hn
  ·exact hk.elim
 ·rename_i x ho
  split at hk
  ·rename_i p z hx hz
   obtain ⟨h1, hk⟩ := need_elim hk
   have h1' : p.o = 0 := of_decide_eq_true h1
   have hp : p = ⟨p.b, 0⟩ := by cases p; simp_all
   have hv := E.val hx
   rw [hp] at hv
   exact wp_of_out (out_entry R hv (PEntry_mono (fun v hv => exV_at hv) hk)) (ex _ ho) hn
  ·rename_i p hx hz
   obtain ⟨h1, hk⟩ := need_elim hk
   have h1' : p.o = 0 := of_decide_eq_true h1
   have hp : p = ⟨p.b, 0⟩ := by cases p; simp_all
   have hv := E.val hx
   rw [hp] at hv
   exact wp_of_out (out_entry R hv hk) (ex _ ho) hn
  ·exact hk.elim
 ·rename_i x i ho
  exact wp_of_out (out_extract R E hk) (ex _ ho) hn
 ·rename_i fn f c ho
  exact wp_of_out (out_makeFunc R E hk) (ex _ ho) hn
 ·rename_i t x ho
  exact wp_of_out (out_makeInterface R E hk) (ex _ ho) hn
 ·rename_i c ho
  split at hk
  ·exact hk.elim
  ·rename_i args hargs
   have hvs := E.vals _ _ hargs
   split at hk
   ·rename_i f hcal
    split at hk
    ·rename_i g z hg hz
     have hgv := E.val hg
     unfold vCallF at hk
     split at hk
     ·rename_i name r cap
      obtain ⟨f', c', hv, hf, hc⟩ := hgv
      obtain ⟨y, hf1, hy⟩ := relL_one hf
      have hfe : f' = #[y] := by apply Array.ext'; simpa using hf1
      subst hfe
      refine wp_invoke R hy hvs hk ?_ hn
      rw [ex _ ho]
      show Sem.run P (do let d ← resolve a.eval c o.type; invoke d.target d.args) w = _
      have : (resolve a.eval c o.type).run P w = .ok { target := .fn (.method name) c', args := #[y] ++ c.args.map a.eval } w := by
       unfold resolve
       simp [hcal, Deferred.ofValue, hv]
      rw [Sem.run_bind, this]
      have hargs' : #[y] ++ c.args.map a.eval = (y :: c.args.toList.map a.eval).toArray := by apply Array.ext'; simp
      simp only [Result.andThen_ok, invoke, hargs']
      have h1' : (y :: c.args.toList.map a.eval).toArray.extract 1 (y :: c.args.toList.map a.eval).toArray.size = (c.args.toList.map a.eval).toArray := by
       apply Array.ext'
       simp only [Array.toList_extract, List.extract_eq_drop_take']
       rw [List.take_of_length_le (by simp)]
       rfl
      show Sem.run P (callMethod y name ((y :: c.args.toList.map a.eval).toArray.extract 1 (y :: c.args.toList.map a.eval).toArray.size)) w = _
      rw [h1']
     unfold vCallV at hk
     split at hk
     ·rename_i g' first cap hne
      replace hk : AC P g' (first ++ args ++ cap) h (fun v h' => exV z fun u => v = u ∧ K (.val u) L h') := by
       split at hk
       ·exact hk.elim
       ·exact hk
      obtain ⟨f', c', hv, hf, hc⟩ := hgv
      refine wp_of_call (vs := f'.toList ++ c.args.toList.map a.eval ++ c'.toList) R ((hf.append hvs).append hc) hk ?_ hn
      rw [ex _ ho]
      show Sem.run P (do let d ← resolve a.eval c o.type; invoke d.target d.args) w = _
      have : (resolve a.eval c o.type).run P w = .ok { target := .fn (.func g') c', args := f' ++ c.args.map a.eval } w := by
       unfold resolve
       simp [hcal, Deferred.ofValue, hv]
      rw [Sem.run_bind, this]
      simp only [Result.andThen_ok, invoke]
      rw [run_callFunc hk.1]
      congr 2
      apply Array.ext'
      simp
     ·have := callable_ne hk.1
      simp at this
     ·exact hk.elim
    ·exact hk.elim
   ·rename_i r name hcal
    split at hk
    ·rename_i g z hg hz
     have hgv := E.val hg
     refine wp_invoke R hgv hvs hk ?_ hn
     rw [ex _ ho]
     show Sem.run P (do let d ← resolve a.eval c o.type; invoke d.target d.args) w = _
     have : (resolve a.eval c o.type).run P w = .ok { target := .fn (.method name) #[], args := #[a.eval r] ++ c.args.map a.eval } w := by
      unfold resolve
      simp [hcal]
     rw [Sem.run_bind, this]
     have hargs' : #[a.eval r] ++ c.args.map a.eval = (a.eval r :: c.args.toList.map a.eval).toArray := by apply Array.ext'; simp
     simp only [Result.andThen_ok, invoke, hargs']
     have h1' : (a.eval r :: c.args.toList.map a.eval).toArray.extract 1 (a.eval r :: c.args.toList.map a.eval).toArray.size = (c.args.toList.map a.eval).toArray := by
      apply Array.ext'
      simp only [Array.toList_extract, List.extract_eq_drop_take']
      rw [List.take_of_length_le (by simp)]
      rfl
     show Sem.run P (callMethod (a.eval r) name ((a.eval r :: c.args.toList.map a.eval).toArray.extract 1 (a.eval r :: c.args.toList.map a.eval).toArray.size)) w = _
     rw [h1']
    ·exact hk.elim
   ·rename_i b hcal
    obtain ⟨v, w', lv, L', h', μ', g1, g2, g3, g4, g5⟩ := out_builtin (ty := o.type) R hvs hk (c.args.map fun | .const _ => true | _ => false)
    unfold Oper.wp
    rw [ex _ ho]
    have : (execOp a.eval { o with op := .call c }).run P w = .ok (.value v) w' := by
     show Sem.run P (do let d ← resolve a.eval c o.type; invoke d.target d.args) w = _
     have : (resolve a.eval c o.type).run P w = .ok { target := .builtin b c.argTypes o.type (c.args.map fun | .const _ => true | _ => false), args := c.args.map a.eval } w := by
      unfold resolve
      simp [hcal]
      intro x _
      cases x <;> rfl
     rw [Sem.run_bind, this]
     simp only [Result.andThen_ok, invoke]
     have e1 : (c.args.map a.eval) = (c.args.toList.map a.eval).toArray := by apply Array.ext'; simp
     rw [e1]
     have e2 : (c.args.map fun | .const _ => true | _ => false) = (c.args.map fun | .const _ => true | _ => false) := rfl
     refine Eq.trans ?_ g1
     congr 1
    rw [this]
    exact hn _ _ _ _ _ _ _ g2 g3 g4 (lamLe.refl _) g5
 ·exact hk.elim
end
theorem wp_loop_ghost {P : Program} {G : Type} {Q : Exit → Act → World → Prop} {c : Code} (I : G → Act → World → Prop) (m : G → Nat)
  (round : ∀ g a w, I g a w → c.wp P (Exit.then (fun a' w' => ∃ g', I g' a' w' ∧ m g' < m g) Q) a w) (g : G) (a : Act) (w : World) (h : I g a w) : (Code.loop c).wp P Q a w := by
 have key : ∀ n g a w, m g = n → I g a w → ∀ b k cs,
   ∃ e a' w', Q e a' w' ∧ Arrives P (lone (b.at a (.code c :: .inLoop c :: k)) cs w) b k cs e a' w' := by
  intro n
  induction n using Nat.strongRecOn with
  | _ n ih =>
   intro g a w hn hI b k cs
   obtain ⟨e, a₁, w₁, hq, harr⟩ := round g a w hI b (.inLoop c :: k) cs
   cases e with
   | normal =>
    obtain ⟨g', hI₁, hlt⟩ := hq
    obtain ⟨e₂, a₂, w₂, hq₂, harr₂⟩ := ih (m g') (hn ▸ hlt) g' a₁ w₁ rfl hI₁ b k cs
    exact ⟨e₂, a₂, w₂, hq₂, .of_steps (Steps.trans harr (.one step_inLoop)) harr₂⟩
   | exit id => exact ⟨_, a₁, w₁, hq, .pass (x := .inLoop c) rfl (fun _ _ => .inl (by simp)) harr⟩
   | goto l => exact ⟨_, a₁, w₁, hq, .pass (x := .inLoop c) rfl (fun _ _ => .inl (by simp)) harr⟩
   | ret => exact ⟨_, a₁, w₁, hq, .pass (x := .inLoop c) rfl (fun _ _ => .inl (by simp)) harr⟩
   | panic ch => exact ⟨_, a₁, w₁, hq, .pass (x := .inLoop c) rfl (fun _ _ => .inl (by simp)) harr⟩
   | outgrown => exact ⟨_, a₁, w₁, hq, .pass (x := .inLoop c) rfl (fun _ _ => .inl (by simp)) harr⟩
 intro b k cs
 obtain ⟨e, a', w', hq, harr⟩ := key _ g a w rfl h b k cs
 exact ⟨e, a', w', hq, .of_steps (.one step_loop) harr⟩
section
variable {P : Program} {μ0 : Ren} {h0 : Heap} {w0 : World}
structure Post (μ0 : Ren) (h0 : Heap) (w0 : World) (μ : Ren) (lam : List Nat) (a : Act) (ws : List Nat) (st : St) (a' : Act) (w' : World) (μ' : Ren) (lam' : List Nat) : Prop where
 rel : Rel μ0 h0 w0 μ' lam' st.L st.h w'
 env : EnvRel μ' lam' st.ρ a'.tmps
 le : Ren.le μ μ'
 lle : lamLe lam lam'
 defers : a'.defers = a.defers
 size : a'.tmps.size = a.tmps.size
 keep : ∀ t, t ∉ ws → a'.tmps.getD t undef = a.tmps.getD t undef
def CPost (μ0 : Ren) (h0 : Heap) (w0 : World) (μ : Ren) (lam : List Nat) (a : Act) (ws : List Nat) (Q : Exit → St → Prop) (e : Exit) (a' : Act) (w' : World) : Prop :=
 ∃ st μ' lam', Q e st ∧ Post μ0 h0 w0 μ lam a ws st a' w' μ' lam'
theorem Post.start {μ : Ren} {lam : List Nat} {st : St} {a : Act} {w : World} (R : Rel μ0 h0 w0 μ lam st.L st.h w) (E : EnvRel μ lam st.ρ a.tmps) (ws : List Nat) : Post μ0 h0 w0 μ lam a ws st a w μ lam :=
 ⟨R, E, .refl _, .refl _, rfl, rfl, fun _ _ => rfl⟩
theorem Post.trans {μ μ1 μ2 : Ren} {lam lam1 lam2 : List Nat} {a a1 a2 : Act} {ws1 ws2 ws : List Nat} {st1 st2 : St} {w1 w2 : World} (p : Post μ0 h0 w0 μ lam a ws1 st1 a1 w1 μ1 lam1) (q : Post μ0 h0 w0 μ1 lam1 a1 ws2 st2 a2 w2 μ2 lam2)
  (h1 : ∀ t ∈ ws1, t ∈ ws) (h2 : ∀ t ∈ ws2, t ∈ ws) : Post μ0 h0 w0 μ lam a ws st2 a2 w2 μ2 lam2 :=
 ⟨q.rel, q.env, p.le.trans q.le, fun _ _ h => q.lle _ _ (p.lle _ _ h), q.defers.trans p.defers, q.size.trans p.size, fun t ht => (q.keep t fun h => ht (h2 t h)).trans (p.keep t fun h => ht (h1 t h))⟩
theorem Post.weaken {μ μ1 : Ren} {lam lam1 : List Nat} {a a1 : Act} {ws1 ws : List Nat} {st1 : St} {w1 : World} (p : Post μ0 h0 w0 μ lam a ws1 st1 a1 w1 μ1 lam1) (h1 : ∀ t ∈ ws1, t ∈ ws) : Post μ0 h0 w0 μ lam a ws st1 a1 w1 μ1 lam1 :=
 { p with keep := fun t ht => p.keep t fun h => ht (h1 t h) }
theorem EnvRel.put {μ : Ren} {lam : List Nat} {ρ : List LV} {a : Act} (E : EnvRel μ lam ρ a.tmps) {d : Option Nat} {lv : LV} {v : Value} (hv : lv.rel μ lam v) :
  EnvRel μ lam (match d with | some d => ρ.set d lv | none => ρ) (a.put d v).tmps := by
 cases d with
 | none => exact E
 | some d =>
  refine ⟨by simp [Act.put, E.len], fun t x hx => ?_⟩
  simp only [Act.put]
  rw [List.getElem?_set] at hx
  split at hx
  ·rename_i hdt
   subst hdt
   split at hx
   ·rename_i hlt
    cases hx
    have : d < a.tmps.size := by rw [← E.len]; exact hlt
    simpa [this] using hv
   ·cases hx
  ·rename_i hne
   have := E.get t x hx
   simpa [Array.getElem?_setIfInBounds, hne] using this
theorem put_keep {a : Act} {d : Option Nat} {v : Value} {t : Nat} (h : d ≠ some t) : (a.put d v).tmps.getD t undef = a.tmps.getD t undef := by
 cases d with
 | none => rfl
 | some d =>
  have : d ≠ t := fun h' => h (by rw [h'])
  simp [Act.put, Array.getElem?_setIfInBounds, this]
theorem put_size {a : Act} {d : Option Nat} {v : Value} : (a.put d v).tmps.size = a.tmps.size := by cases d <;> simp [Act.put]
theorem put_defers {a : Act} {d : Option Nat} {v : Value} : (a.put d v).defers = a.defers := by cases d <;> simp [Act.put]
theorem yielded_of {μ : Ren} {lam : List Nat} {ρ : List LV} {a : Act} (E : EnvRel μ lam ρ a.tmps) {ops : Array Oper} {j : Nat} {b : Bool} (h : guardVal ops ρ j = some b) : yielded ops a.tmps j = some b := by
 simp only [guardVal] at h
 split at h
 ·rename_i d hd
  split at h
  ·rename_i b' hb
   cases h
   have := E.get d _ hb
   have hlt : d < a.tmps.size := by rw [← E.len]; exact lt_of_get hb
   have e1 : a.tmps.getD d undef = .bool b := this
   unfold yielded
   rw [hd]
   have e2 : a.tmps[d]? = some (.bool b) := by
    rw [Array.getElem?_eq_getElem hlt]
    simpa [hlt] using e1
   simp [e2]
  ·cases h
 ·cases h
theorem setG_same {ops : Array Oper} {ρ : List LV} {j : Nat} {b : Bool} (h : guardVal ops ρ j = some b) : setG ops ρ j b = ρ := by
 unfold guardVal at h
 unfold setG
 split at h
 ·rename_i d hd
  split at h
  ·rename_i b' hb
   cases h
   refine List.ext_getElem? fun t => ?_
   rw [List.getElem?_set]
   split
   ·rename_i ht
    subst ht
    rw [if_pos (lt_of_get hb)]
    exact hb.symm
   ·rfl
  ·cases h
 ·cases h
theorem vguarded_elim {isLoc : Nat → Bool} {call : CallH} {ops : Array Oper} {o : Oper} {st : St} {K : St → Prop} (hk : vguarded P isLoc call ops o st K) :
  (actsAt ops o st.ρ = some true ∧ vop P isLoc call o st.ρ st.L st.h fun v L h => K (st.put o.dst v L h)) ∨ (actsAt ops o st.ρ = some false ∧ K (st.put o.dst .und st.L st.h)) := by
 unfold vguarded at hk
 unfold actsAt
 split at hk
 ·rename_i hg; exact .inl ⟨by simp [hg], hk⟩
 ·rename_i j want hg
  split at hk
  ·rename_i ho
   exact .inr ⟨by simp [ho], hk⟩
  ·rename_i ho
   split at hk
   ·exact hk.elim
   ·rename_i b hb
    simp only [ho, hb]
    rcases vif_elim hk with ⟨rfl, hk⟩ | ⟨rfl, hk⟩ <;> rw [setG_same hb] at hk <;> cases want <;> simp only [vside, Bool.not_true, Bool.not_false] at hk
    ·exact .inr ⟨rfl, hk⟩
    ·exact .inl ⟨rfl, hk⟩
    ·exact .inl ⟨rfl, hk⟩
    ·exact .inr ⟨rfl, hk⟩
theorem wanted_of {μ : Ren} {lam : List Nat} {ρ : List LV} {a : Act} (E : EnvRel μ lam ρ a.tmps) {ops : Array Oper} {o : Oper} {b : Bool} (h : actsAt ops o ρ = some b) : Region.wanted o (yielded ops a.tmps) = b := by
 unfold actsAt at h
 unfold Region.wanted
 split at h
 ·rename_i hg; cases h; simp [hg]
 ·rename_i j want hg
  simp only [hg]
  split at h
  ·rename_i ho
   cases h
   unfold guardOff at ho
   split at ho
   ·rename_i d hd
    split at ho
    ·rename_i hb
     have := E.get d _ hb
     have hlt : d < a.tmps.size := by rw [← E.len]; exact lt_of_get hb
     have e1 : ∃ cs, a.tmps.getD d undef = .tuple cs := by
      obtain ⟨cs, h1, _⟩ := this
      exact ⟨cs, h1⟩
     obtain ⟨cs, e1⟩ := e1
     have e2 : a.tmps[d]? = some (.tuple cs) := by
      rw [Array.getElem?_eq_getElem hlt]
      simpa [hlt] using e1
     unfold yielded
     simp [hd, e2]
    ·cases ho
   ·cases ho
  ·simp only [Option.map_eq_some_iff] at h
   obtain ⟨b', hb', rfl⟩ := h
   rw [yielded_of E hb']
   cases b' <;> cases want <;> rfl
theorem und_rel {μ : Ren} {lam : List Nat} : LV.und.rel μ lam undef := ⟨#[], rfl, rfl⟩
theorem vops_wp {isLoc : Nat → Bool} {ops : Array Oper} {ws : List Nat} (hws : ∀ (i : Nat) (o : Oper) (d : Nat), ops[i]? = some o → o.dst = some d → d ∈ ws) {Q : Exit → Act → World → Prop} :
  ∀ (is : List Nat) (st : St) (K : St → Prop) (μ : Ren) (lam : List Nat) (a : Act) (w : World), vops P isLoc (AC P) ops is st K → Rel μ0 h0 w0 μ lam st.L st.h w → EnvRel μ lam st.ρ a.tmps →
   (∀ st' a' w' μ' lam', K st' → Post μ0 h0 w0 μ lam a ws st' a' w' μ' lam' → Q .normal a' w') → wpOps P ops Q is a w
 | [], st, K, μ, lam, a, w, hk, R, E, hq => hq _ _ _ _ _ hk (Post.start R E ws)
 | i :: is, st, K, μ, lam, a, w, hk, R, E, hq => by
  simp only [vops] at hk
  split at hk
  ·exact hk.elim
  ·rename_i o ho
   simp only [wpOps, ho]
   have fin : ∀ (lv : LV) (L' : Locs) (h' : Heap) (μ' : Ren) (lam' : List Nat) (v : Value) (w' : World), vops P isLoc (AC P) ops is (st.put o.dst lv L' h') K → Rel μ0 h0 w0 μ' lam' L' h' w' → Ren.le μ μ' → lamLe lam lam' → lv.rel μ' lam' v →
     wpOps P ops Q is (a.put o.dst v) w' := by
    intro lv L' h' μ' lam' v w' hk' R' h1 h2 hv
    have E' := (E.mono h1 h2).put (d := o.dst) hv
    refine vops_wp hws is _ K μ' lam' _ _ hk' R' E' fun st2 a2 w2 μ2 lam2 hK p => hq _ _ _ μ2 lam2 hK ?_
    have p1 : Post μ0 h0 w0 μ lam a ws (st.put o.dst lv L' h') (a.put o.dst v) w' μ' lam' :=
     ⟨R', E', h1, h2, put_defers, put_size, fun t ht => put_keep fun hd => ht (hws i o t ho hd)⟩
    exact p1.trans p (fun _ h => h) (fun _ h => h)
   rcases vguarded_elim hk with ⟨hg, hk⟩ | ⟨hg, hk⟩
   ·rw [if_pos (wanted_of E hg)]
    exact .inl (vop_wp R E hk fun lv L' h' μ' lam' v w' a1 a2 a3 a4 a5 => fin lv L' h' μ' lam' v w' a1 a2 a3 a4 a5)
   ·rw [if_neg (by rw [wanted_of E hg]; simp)]
    exact fin .und _ _ μ lam undef w hk R (.refl _) (lamLe.refl _) und_rel
theorem region_ws {ops : Array Oper} (id : Nat) (d : Bool) : ∀ (i : Nat) (o : Oper) (t : Nat), ops[i]? = some o → o.dst = some t → t ∈ writes (.region id ops d) := by
 intro i o t ho hd
 simp only [writes, List.mem_filterMap]
 refine ⟨o, ?_, hd⟩
 have := lt_of_get (l := ops.toList) (i := i) (x := o) (by simpa using ho)
 exact List.mem_of_getElem? (by simpa using ho)
def DrawOK (P : Program) (draw : DrawH) : Prop :=
 ∀ (μ0 : Ren) (h0 : Heap) (w0 : World) (id : Nat) (ops : Array Oper) (st : St) (K : St → Prop) (μ : Ren) (lam : List Nat) (a : Act) (w : World), draw id ops st K →
  Rel μ0 h0 w0 μ lam st.L st.h w → EnvRel μ lam st.ρ a.tmps → (Code.region id ops true).wp P (CPost μ0 h0 w0 μ lam a (writes (.region id ops true)) fun e st' => e = .normal ∧ K st') a w
theorem allL_inst : ∀ {zs : List AV} {F : List AV → Prop}, allL zs F → ∀ {xs : List AV}, sameShapes zs xs = true → F xs
 | [], F, h, xs, hs => by
  cases xs with
  | nil => exact h
  | cons x xs => simp [sameShapes] at hs
 | z :: zs, F, h, [], hs => by simp [sameShapes] at hs
 | z :: zs, F, h, x :: xs, hs => by
  simp only [sameShapes, Bool.and_eq_true] at hs
  obtain ⟨h1, h2⟩ := hs
  cases z <;> simp only [allL] at h <;> simp only [sameShape] at h1
  case int k n =>
   cases x <;> simp at h1
   subst h1
   exact allL_inst (h _) h2
  case bool => cases x <;> simp at h1; exact allL_inst (h _) h2
  case str => cases x <;> simp at h1; exact allL_inst (h _) h2
  case ptr => cases x <;> simp at h1; exact allL_inst (h _) h2
  case sl => cases x <;> simp at h1; exact allL_inst (h _) h2
  case map => cases x <;> simp at h1; exact allL_inst (h _) h2
  all_goals exact allL_inst (h _ h1) h2
theorem setTop_get : ∀ {ts : List Nat} {ρ : List LV} {t : Nat} {lv : LV}, (setTop ρ ts)[t]? = some lv → lv = .top ∨ (t ∉ ts ∧ ρ[t]? = some lv)
 | [], ρ, t, lv, h => .inr ⟨by simp, h⟩
 | s :: ts, ρ, t, lv, h => by
  rcases setTop_get (ts := ts) h with h1 | ⟨h1, h2⟩
  ·exact .inl h1
  ·rw [List.getElem?_set] at h2
   split at h2
   ·split at h2
    ·cases h2; exact .inl rfl
    ·cases h2
   ·rename_i hne
    exact .inr ⟨by simp [h1]; exact fun hc => hne hc.symm, h2⟩
theorem setTop_length : ∀ (ts : List Nat) (ρ : List LV), (setTop ρ ts).length = ρ.length
 | [], ρ => rfl
 | s :: ts, ρ => by simp [setTop, setTop_length ts]
theorem setSlots_length : ∀ (ss : List Nat) (vs : List AV) (ρ : List LV), (setSlots ρ ss vs).length = ρ.length
 | [], vs, ρ => by cases vs <;> rfl
 | s :: ss, [], ρ => rfl
 | s :: ss, v :: vs, ρ => by simp [setSlots, setSlots_length ss vs]
theorem setSlots_get : ∀ {ss : List Nat} {vs : List AV} {ρ : List LV} {t : Nat} {lv : LV}, (setSlots ρ ss vs)[t]? = some lv → (∃ (i : Nat) (v : AV), ss[i]? = some t ∧ vs[i]? = some v ∧ lv = .val v) ∨ ρ[t]? = some lv
 | [], vs, ρ, t, lv, h => by cases vs <;> exact .inr h
 | s :: ss, [], ρ, t, lv, h => .inr h
 | s :: ss, v :: vs, ρ, t, lv, h => by
  rcases setSlots_get (ss := ss) h with ⟨i, u, h1, h2, h3⟩ | h1
  ·exact .inl ⟨i + 1, u, by simpa using h1, by simpa using h2, h3⟩
  ·rw [List.getElem?_set] at h1
   split at h1
   ·rename_i hst
    split at h1
    ·cases h1; exact .inl ⟨0, v, by simp [hst], by simp, rfl⟩
    ·cases h1
   ·exact .inr h1
theorem slotVals_get : ∀ {ss : List Nat} {ρ : List LV} {vs : List AV}, slotVals ρ ss = some vs → vs.length = ss.length ∧ ∀ (i s : Nat) (v : AV), ss[i]? = some s → vs[i]? = some v → ρ[s]? = some (.val v)
 | [], ρ, vs, h => by simp [slotVals] at h; subst h; simp
 | s :: ss, ρ, vs, h => by
  simp only [slotVals] at h
  split at h
  ·rename_i v l hv hl
   cases h
   obtain ⟨h1, h2⟩ := slotVals_get hl
   refine ⟨by simp [h1], fun i s' v' hs hv' => ?_⟩
   cases i with
   | zero => simp at hs hv'; subst hs; subst hv'; exact hv
   | succ i => exact h2 i s' v' (by simpa using hs) (by simpa using hv')
  ·cases h
theorem locVals_setLocs : ∀ {ks : List Nat} {L L' : Locs} {vs : List AV}, locVals L' ks = some vs → (∀ k ∈ ks, ∃ c c' : List AV, L[k]? = some c ∧ L'[k]? = some c' ∧ c'.length = c.length) →
  (setLocs L ks vs).length = L.length ∧ ∀ k : Nat, (setLocs L ks vs)[k]? = if k ∈ ks then L'[k]? else L[k]?
 | [], L, L', vs, h, hc => by simp [setLocs]
 | k :: ks, L, L', vs, h, hc => by
  simp only [locVals] at h
  split at h
  ·rename_i c' l hk hl
   cases h
   obtain ⟨c, c2, h1, h2, h3⟩ := hc k (by simp)
   rw [hk] at h2; cases h2
   simp only [setLocs, h1]
   have e1 : (c' ++ l).take c.length = c' := by rw [← h3]; simp
   have e2 : (c' ++ l).drop c.length = l := by rw [← h3]; simp
   rw [e1, e2]
   have hkl := lt_of_get h1
   obtain ⟨g1, g2⟩ := locVals_setLocs (ks := ks) (L := L.set k c') (L' := L') (vs := l) hl (by
    intro j hj
    obtain ⟨d, d', k1, k2, k3⟩ := hc j (by simp [hj])
    by_cases hjk : k = j
    ·subst hjk
     rw [h1] at k1; cases k1
     rw [hk] at k2; cases k2
     exact ⟨c', c', by simp [hkl], hk, rfl⟩
    ·exact ⟨d, d', by rw [List.getElem?_set, if_neg hjk]; exact k1, k2, k3⟩)
   refine ⟨by simpa using g1, fun j => ?_⟩
   rw [g2 j]
   by_cases hj : j ∈ ks
   ·simp [hj]
   ·by_cases hjk : j = k
    ·subst hjk
     simp [hj, hkl, hk]
    ·simp [hj, hjk, List.getElem?_set, Ne.symm hjk]
  ·cases h
theorem keepL_get {mods : List Nat} {L0 L : Locs} : ∀ {n : Nat}, keepL mods L0 L n → ∀ k, k < n → (k ∈ mods ∧ ∃ c c0 : List AV, L[k]? = some c ∧ L0[k]? = some c0 ∧ c.length = c0.length) ∨ (k ∉ mods ∧ L[k]? = L0[k]?)
 | 0, _, k, hk => by omega
 | n + 1, h, k, hk => by
  obtain ⟨h1, h2⟩ := h
  rcases Nat.lt_or_ge k n with hlt | hge
  ·exact keepL_get h2 k hlt
  ·obtain rfl : k = n := by omega
   split at h1
   ·rename_i hc
    left
    refine ⟨by simpa using hc, ?_⟩
    split at h1
    ·rename_i c c0 e1 e2
     exact ⟨c, c0, e1, e2, by simpa using (need_elim h1).1⟩
    ·exact h1.elim
   ·rename_i hc
    exact .inr ⟨by simpa using hc, h1⟩
theorem Rel.forget {μ : Ren} {lam : List Nat} {L L1 : Locs} {h : Heap} {w : World} (R : Rel μ0 h0 w0 μ lam L h w) {n : Nat} (hn : L1.length = n) (hle : n ≤ L.length) (hL : ∀ k, k < n → L1[k]? = L[k]?) : Rel μ0 h0 w0 μ (lam.take n) L1 h w := by
 have sub : ∀ k r : Nat, (lam.take n)[k]? = some r → k < n ∧ lam[k]? = some r := by
  intro k r hk
  rw [List.getElem?_take] at hk
  split at hk
  ·exact ⟨by assumption, hk⟩
  ·cases hk
 refine ⟨R.evo, R.heap, ⟨by simp [R.locs.len, hn]; omega, ?_, ?_, ?_, ?_⟩⟩
 ·intro k c r hc hr
  obtain ⟨h1, h2⟩ := sub k r hr
  rw [hL k h1] at hc
  exact R.locs.blk k c r hc h2
 ·intro k1 k2 r h1 h2
  exact R.locs.inj k1 k2 r (sub _ _ h1).2 (sub _ _ h2).2
 ·intro k r b B e hk
  exact R.locs.sep k r b B e (sub _ _ hk).2
 ·intro k r hk
  exact R.locs.new k r (sub _ _ hk).2
end
end Go.Ab
