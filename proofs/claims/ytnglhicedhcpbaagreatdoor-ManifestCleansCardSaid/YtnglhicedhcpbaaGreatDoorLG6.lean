import Derived.Test.YtnglhicedhcpbaaGreatDoorLG5
import Derived.MapKept
import Derived.WideKeyRuns
namespace Go.Ab
set_option linter.unusedSimpArgs false
set_option linter.unusedVariables false
open Go.MapKept
section
variable {P : Program} {μ0 : Ren} {h0 : Heap} {w0 : World} {μ : Ren} {lam : List Nat} {L : Locs} {h : Heap} {w : World} {K : KO}
theorem relM.length {μ : Ren} : ∀ {es : List (AV × AV × Nat)} {l : List MapEntry}, relM μ es l -> l.length = es.length
 | [], _, r => by rw [show _ = [] from r]; rfl
 | (k, v, n) :: es, _, ⟨E, Es, h1, _, _, _, h5⟩ => by rw [h1]; simp [h5.length]
theorem relM.get {μ : Ren} : ∀ {es : List (AV × AV × Nat)} {l : List MapEntry}, relM μ es l -> ∀ {i : Nat} {x : AV × AV × Nat}, es[i]? = some x -> ∃ E, l[i]? = some E /\ x.1.rel μ E.key /\ x.2.1.rel μ E.val /\ E.born = x.2.2
 | [], _, _, i, x, hx => by simp at hx
 | (k, v, n) :: es, _, ⟨E, Es, h1, h2, h3, h4, h5⟩, i, x, hx => by
  subst h1
  cases i with
  | zero => simp at hx; subst hx; exact ⟨E, rfl, h2, h3, h4⟩
  | succ i => simp at hx; obtain ⟨E', g1, g2⟩ := h5.get hx; exact ⟨E', by simpa using g1, g2⟩
theorem relM.of_get {μ : Ren} : ∀ {es : List (AV × AV × Nat)} {l : List MapEntry}, l.length = es.length -> (∀ (i : Nat) (x : AV × AV × Nat) (E : MapEntry), es[i]? = some x -> l[i]? = some E -> x.1.rel μ E.key /\ x.2.1.rel μ E.val /\ E.born = x.2.2) -> relM μ es l
 | [], l, hl, _ => by simp at hl; exact hl
 | x :: es, [], hl, _ => by simp at hl
 | (k, v, n) :: es, E :: Es, hl, hh => by
  obtain ⟨h1, h2, h3⟩ := hh 0 (k, v, n) E (by simp) (by simp)
  exact ⟨E, Es, rfl, h1, h2, h3, relM.of_get (by simpa using hl) fun i x E' hx hE => hh (i + 1) x E' (by simpa using hx) (by simpa using hE)⟩
theorem zN9 {kt : TypeId} {d : TypeDesc} (hd : P.underlying kt = some d) (hns : ∀ fs, d ≠ .struct fs) (hna : ∀ n e, d ≠ .array n e) {a b : AV} {va vb : Value} (ha : a.rel μ va) (hb : b.rel μ vb) {KB : Bool -> Prop} (hk : zCM P kt a b KB) :
  ∃ r, Instr.sameNow d va vb = some r /\ KB r /\ (r = true -> va = vb) := by
 unfold zCM at hk
 rw [hd] at hk
 split at hk
 ·rename_i heq
  cases heq
  obtain ⟨h1, hk2⟩ := zG hk
  obtain rfl : va = _ := ha
  obtain rfl : vb = _ := hb
  have := of_decide_eq_true h1
  subst this
  refine ⟨_, by simp only [Instr.sameNow, if_true], hk2, fun h => ?_⟩
  rw [eq_of_beq h]
 ·rename_i heq
  cases heq
  obtain rfl : va = _ := ha
  obtain rfl : vb = _ := hb
  refine ⟨_, rfl, by rw [vV]; exact hk, fun h => ?_⟩
  rw [vV] at h
  rw [eq_of_beq h]
 ·rename_i heq
  cases heq
  obtain rfl : va = _ := ha
  obtain rfl : vb = _ := hb
  refine ⟨_, rfl, hk, fun h => ?_⟩
  rw [eq_of_beq h]
 ·rename_i heq
  cases heq
  exact absurd rfl (hns _)
 ·rename_i heq
  cases heq
  exact absurd rfl (hna _ _)
 ·exact hk.elim
theorem zH9 {kt : TypeId} {d : TypeDesc} (hd : P.underlying kt = some d) (hns : ∀ fs, d ≠ .struct fs) (hna : ∀ n e, d ≠ .array n e) {k : AV} {vk : Value} (hkv : k.rel μ vk) : ∀ {es : List (AV × AV × Nat)} {ES : List MapEntry} {i : Nat} {KR : Option (Nat × AV × Nat) -> Prop},
  relM μ es ES -> vB P kt k es i KR ->
  (Instr.findNow d vk ES i = some none /\ KR none) ∨ ∃ (j : Nat) (k' v : AV) (n : Nat) (E : MapEntry), Instr.findNow d vk ES i = some (some (i + j, E.val)) /\ KR (some (i + j, v, n)) /\ es[j]? = some (k', v, n) /\ ES[j]? = some E /\ v.rel μ E.val /\ E.key = vk /\ E.born = n
 | [], ES, i, KR, r, hk => by
  obtain rfl : ES = [] := r
  exact .inl ⟨rfl, hk⟩
 | (k', v, n) :: es, _, i, KR, ⟨E, Es, h1, h2, h3, h4, h5⟩, hk => by
  subst h1
  simp only [vB] at hk
  obtain ⟨b, g1, g2, g3⟩ := zN9 hd hns hna hkv h2 hk
  rcases vE g2 with ⟨rfl, g2⟩ | ⟨rfl, g2⟩
  ·right
   exact ⟨0, k', v, n, E, by simp [Instr.findNow, g1], g2, rfl, rfl, h3, (g3 rfl).symm, h4⟩
  ·rcases zH9 hd hns hna hkv h5 g2 with ⟨f1, f2⟩ | ⟨j, k2, v2, n2, E2, f1, f2, f3, f4, f5, f6, f7⟩
   ·left
    exact ⟨by simp only [Instr.findNow, g1]; exact f1, f2⟩
   ·right
    refine ⟨j + 1, k2, v2, n2, E2, ?_, ?_, by simpa using f3, by simpa using f4, f5, f6, f7⟩
    ·simp only [Instr.findNow, g1]; rw [f1]; congr 3; omega
    ·rw [show i + (j + 1) = i + 1 + j by omega]; exact f2
theorem jZ {kt : TypeId} {k : AV} {vk : Value} (hkv : k.rel μ vk) (h : zDQ P kt k = true) : ∃ d, P.underlying kt = some d /\ IsKey d vk := by
 unfold zDQ at h
 split at h
 ·rename_i hu
  obtain rfl : vk = _ := hkv
  have := of_decide_eq_true h
  subst this
  exact ⟨_, hu, rfl⟩
 ·rename_i hu; obtain rfl : vk = _ := hkv; exact ⟨_, hu, trivial⟩
 ·rename_i hu; obtain rfl : vk = _ := hkv; exact ⟨_, hu, trivial⟩
 ·cases h
theorem zEL {t : TypeId} {d : TypeDesc} {v : Value} (hu : P.underlying t = some d) (h : IsKey d v) : tagg P t = false := by
 cases d <;> simp_all [IsKey, tagg]
theorem zC7 {d : TypeDesc} {v : Value} (h : IsKey d v) (n : Nat) : Instr.sameBits n v v = true := by
 cases d <;> cases v <;> simp_all [IsKey, Instr.sameBits]
 rename_i s
 have := vV s.data.toList s.data.toList
 simpa using this
theorem jR {t : TypeId} {A : Array Value} {off : Nat} {v : Value} {d : TypeDesc} (hd : P.underlying t = some d) (ht : tagg P t = false) (hv : A.toList[off]? = some v) : (Go.part t A off).run P w = .ok v w := by
 have hv' : A[off]? = some v := by simpa using hv
 unfold Go.part
 rw [Sem.run_bind, zCF hd, ht]
 simp [hv']
theorem kK {x : AV} {xs : List AV} {A : Array Value} {off : Nat} (r : relL μ (x :: xs) (A.toList.drop off)) : ∃ y, A.toList[off]? = some y /\ x.rel μ y /\ A.toList.drop off = y :: A.toList.drop (off + 1) /\ relL μ xs (A.toList.drop (off + 1)) := by
 obtain ⟨y, ys, e1, r1, r2⟩ := r
 have hy : A.toList[off]? = some y := by
  have : (A.toList.drop off)[0]? = some y := by rw [e1]; rfl
  simpa using this
 have e2 : A.toList.drop (off + 1) = ys := by rw [<- List.drop_drop, e1]; rfl
 exact ⟨y, hy, r1, by rw [e2]; exact e1, by rw [e2]; exact r2⟩
theorem zDM {e : Bool} {n : Nat} {A : Array Value} {g : Field -> PUnit -> Sem (ForInStep PUnit)}
  (hg : ∀ (f : Field) (y : Value), f.name ≠ "_" -> (Go.part f.type A f.offset).run P w = .ok y w -> (Instr.checkKey e (n + 1) f.type y).run P w = .ok () w -> (g f PUnit.unit).run P w = .ok (ForInStep.yield PUnit.unit) w) :
  ∀ {fs : List Field} {off : Nat} {xs : List AV}, zBQ P fs off xs = true -> relL μ xs (A.toList.drop off) -> (forIn fs PUnit.unit g).run P w = .ok PUnit.unit w
 | [], off, [], h, r => by simp
 | [], off, _ :: _, h, r => by simp [zBQ] at h
 | f :: fs, off, [], h, r => by simp [zBQ] at h
 | f :: fs, off, x :: xs, h, r => by
  simp only [zBQ, Bool.and_eq_true, beq_iff_eq, bne_iff_ne, ne_eq] at h
  obtain ⟨h1, h2, h3, h4⟩ := h
  obtain ⟨y, hy, r1, _, r3⟩ := kK r
  obtain ⟨d, hd, hk⟩ := jZ r1 h3
  have hp : (Go.part f.type A f.offset).run P w = .ok y w := by rw [h1]; exact jR hd (zEL hd hk) hy
  rw [List.forIn_cons]
  simp only [Sem.run_bind, hg f y h2 hp (run_checkKey hd hk e n), Result.andThen_ok]
  exact zDM hg h4 r3
theorem zEJ {n : Nat} : ∀ {fs : List Field} {off : Nat} {xs : List AV} {ys : List Value}, zBQ P fs off xs = true -> relL μ xs ys -> ((ys.zip ys).all fun (x, y) => Instr.sameBits n x y) = true
 | [], off, [], ys, h, r => by rw [show ys = [] from r]; rfl
 | [], off, _ :: _, ys, h, r => by simp [zBQ] at h
 | f :: fs, off, [], ys, h, r => by simp [zBQ] at h
 | f :: fs, off, x :: xs, ys, h, r => by
  simp only [zBQ, Bool.and_eq_true] at h
  obtain ⟨h1, h2, h3, h4⟩ := h
  obtain ⟨y, zs, rfl, r1, r2⟩ := r
  obtain ⟨d, hd, hk⟩ := jZ r1 h3
  simp only [List.zip_cons_cons, List.all_cons, Bool.and_eq_true]
  exact ⟨zC7 hk n, zEJ h4 r2⟩
theorem zJ4 {e : TypeId} (h : tsz P e = 1) : ∃ i, P.info? e = some i /\ P.cellsOf e = 1 := by
 have h' : P.cellsOf e = 1 := h
 unfold Program.cellsOf at h'
 cases hi : P.info? e with
 | none => rw [hi] at h'; simp at h'
 | some i => exact ⟨i, rfl, h⟩
theorem zCL {t : TypeId} {e : Bool} {n : Nat} {A : Array Value} {g : Nat -> PUnit -> Sem (ForInStep PUnit)}
  (hg : ∀ (j : Nat) (y : Value), (Go.part t A j).run P w = .ok y w -> (Instr.checkKey e (n + 1) t y).run P w = .ok () w -> (g j PUnit.unit).run P w = .ok (ForInStep.yield PUnit.unit) w) :
  ∀ {xs : List AV} {off : Nat}, zC6 P t xs = true -> relL μ xs (A.toList.drop off) -> (forIn (List.range' off xs.length) PUnit.unit g).run P w = .ok PUnit.unit w
 | [], off, h, r => by simp
 | x :: xs, off, h, r => by
  simp only [zC6, Bool.and_eq_true] at h
  obtain ⟨y, hy, r1, _, r3⟩ := kK r
  obtain ⟨d, hd, hk⟩ := jZ r1 h.1
  have hp : (Go.part t A off).run P w = .ok y w := jR hd (zEL hd hk) hy
  rw [List.length_cons, List.range'_succ, List.forIn_cons]
  simp only [Sem.run_bind, hg off y hp (run_checkKey hd hk e n), Result.andThen_ok]
  exact zCL hg h.2 r3
theorem zDN {n : Nat} {t : TypeId} : ∀ {xs : List AV} {ys : List Value}, zC6 P t xs = true -> relL μ xs ys -> ((ys.zip ys).all fun (x, y) => Instr.sameBits n x y) = true
 | [], ys, h, r => by rw [show ys = [] from r]; rfl
 | x :: xs, ys, h, r => by
  simp only [zC6, Bool.and_eq_true] at h
  obtain ⟨y, zs, rfl, r1, r2⟩ := r
  obtain ⟨d, hd, hk⟩ := jZ r1 h.1
  simp only [List.zip_cons_cons, List.all_cons, Bool.and_eq_true]
  exact ⟨zC7 hk n, zDN h.2 r2⟩
theorem zBG {kt : TypeId} {k : AV} {vk : Value} (hkv : k.rel μ vk) (h : zAR P kt k = true) : (∀ e, (Instr.checkKey e 10000 kt vk).run P w = .ok () w) /\ Instr.sameBits 10000 vk vk = true := by
 have plain : zDQ P kt k = true -> (∀ e, (Instr.checkKey e 10000 kt vk).run P w = .ok () w) /\ Instr.sameBits 10000 vk vk = true := by
  intro h1
  obtain ⟨d, hd, hk⟩ := jZ hkv h1
  exact ⟨fun e => run_checkKey hd hk e 9999, zC7 hk _⟩
 unfold zAR at h
 split at h
 ·rename_i hu; exact plain (by simp only [zDQ, hu]; exact h)
 ·rename_i hu; exact plain (by simp only [zDQ, hu])
 ·rename_i hu; exact plain (by simp only [zDQ, hu])
 ·rename_i fs xs hu
  obtain ⟨A, rfl, hA⟩ := hkv
  refine ⟨fun e => ?_, ?_⟩
  ·show (Instr.checkKey e (9998 + 1 + 1) kt (.agg A)).run P w = .ok () w
   rw [Instr.checkKey]
   simp only [Sem.run_bind, run_underlying hu, Result.andThen_ok]
   rw [<- Array.forIn_toList]
   have key : ∀ r : Result PUnit, r = Result.ok PUnit.unit w -> (r.andThen fun _ w' => Sem.run P (pure ()) w') = Result.ok () w := by rintro r rfl; simp
   exact key _ (zDM (μ := μ) (e := e) (n := 9998) (A := A) (fun f y hn hp hc => by simp [hn, hp, hc]) h (by rw [List.drop_zero]; exact hA))
  ·show Instr.sameBits (9999 + 1) (.agg A) (.agg A) = true
   simp only [Instr.sameBits, beq_self_eq_true, Bool.true_and]
   exact zEJ h hA
 ·rename_i n e xs hu
  obtain ⟨A, rfl, hA⟩ := hkv
  simp only [Bool.and_eq_true, beq_iff_eq] at h
  obtain ⟨h1, h2, h3⟩ := h
  refine ⟨fun e0 => ?_, ?_⟩
  ·show (Instr.checkKey e0 (9998 + 1 + 1) kt (.agg A)).run P w = .ok () w
   rw [Instr.checkKey]
   simp only [Sem.run_bind, run_underlying hu, Result.andThen_ok]
   simp only [Std.Legacy.Range.forIn_eq_forIn_range', Std.Legacy.Range.size, Nat.sub_zero, Nat.add_one_sub_one, Nat.div_one]
   have key : ∀ r : Result PUnit, r = Result.ok PUnit.unit w -> (r.andThen fun _ w' => Sem.run P (pure ()) w') = Result.ok () w := by rintro r rfl; simp
   rw [<- h1]
   obtain ⟨i, hi, hs⟩ := zJ4 h2
   exact key _ (zCL (μ := μ) (e := e0) (n := 9998) (A := A) (off := 0) (fun j y hp hc => by simp [run_sizeOf w hi, hs, hp, hc]) h3 (by rw [List.drop_zero]; exact hA))
  ·show Instr.sameBits (9999 + 1) (.agg A) (.agg A) = true
   simp only [Instr.sameBits, beq_self_eq_true, Bool.true_and]
   exact zDN h3 hA
 ·cases h
theorem zFO {t : TypeId} {x y : AV} {v u : Value} {b : Bool} (h : zKO P t x y = some b) (hx : x.rel μ v) (hy : y.rel μ u) (n : Nat) : ∃ d, P.underlying t = some d /\ tagg P t = false /\ (Op.equalIn (n + 1) t v u).run P w = .ok b w /\ (b = true -> v = u) := by
 unfold zKO at h
 split at h
 ·rename_i hu
  split at h
  ·rename_i hk
   have := of_decide_eq_true hk
   subst this
   obtain rfl : v = _ := hx
   obtain rfl : u = _ := hy
   cases h
   refine ⟨_, hu, by simp [tagg, hu], ?_, fun h => by rw [eq_of_beq h]⟩
   unfold Op.equalIn
   rw [Sem.run_bind, run_underlying hu]
   simp
  ·cases h
 ·rename_i hu
  obtain rfl : v = _ := hx
  obtain rfl : u = _ := hy
  cases h
  refine ⟨_, hu, by simp [tagg, hu], ?_, fun h => by rw [eq_of_beq h]⟩
  unfold Op.equalIn
  rw [Sem.run_bind, run_underlying hu]
  simp [vV]
 ·rename_i hu
  obtain rfl : v = _ := hx
  obtain rfl : u = _ := hy
  cases h
  refine ⟨_, hu, by simp [tagg, hu], ?_, fun h => by rw [eq_of_beq h]⟩
  unfold Op.equalIn
  rw [Sem.run_bind, run_underlying hu]
  simp
 ·cases h
theorem zFM {n : Nat} {A B : Array Value} : ∀ {fs : List Field} {off : Nat} {xs ys : List AV} {b : Bool}, zCK P fs off xs ys = some b -> relL μ xs (A.toList.drop off) -> relL μ ys (B.toList.drop off) ->
  (Op.eqFields (n + 1) A B fs).run P w = .ok b w /\ (b = true -> A.toList.drop off = B.toList.drop off)
 | [], off, [], [], b, h, r, s => by
  simp only [zCK, Option.some.injEq] at h
  subst h
  exact ⟨by simp [Op.eqFields], fun _ => by rw [show A.toList.drop off = [] from r, show B.toList.drop off = [] from s]⟩
 | [], off, _ :: _, _, b, h, r, s => by simp [zCK] at h
 | [], off, [], _ :: _, b, h, r, s => by simp [zCK] at h
 | f :: fs, off, [], _, b, h, r, s => by simp [zCK] at h
 | f :: fs, off, _ :: _, [], b, h, r, s => by simp [zCK] at h
 | f :: fs, off, x :: xs, y :: ys, b, h, r, s => by
  simp only [zCK] at h
  split at h
  ·rename_i b1 b2 g1 g2 g3
   cases h
   simp only [Bool.and_eq_true, beq_iff_eq, bne_iff_ne, ne_eq] at g1
   obtain ⟨v, hv, r1, r2, r3⟩ := kK r
   obtain ⟨u, hu, s1, s2, s3⟩ := kK s
   obtain ⟨d, hd, ht, he, hb⟩ := zFO (w := w) g2 r1 s1 n
   obtain ⟨hr, hrb⟩ := zFM g3 r3 s3
   have p1 : (Go.part f.type A f.offset).run P w = .ok v w := by rw [g1.1]; exact jR hd ht hv
   have p2 : (Go.part f.type B f.offset).run P w = .ok u w := by rw [g1.1]; exact jR hd ht hu
   refine ⟨?_, fun hbb => ?_⟩
   ·simp only [Op.eqFields]
    rw [if_pos (by simpa using g1.2)]
    simp only [Sem.run_bind, p1, p2, he, Result.andThen_ok]
    cases b1
    ·simp
    ·simpa using hr
   ·simp only [Bool.and_eq_true] at hbb
    rw [r2, s2, hb hbb.1, hrb hbb.2]
  ·cases h
theorem zQM {kt : TypeId} {fs : Array Field} {xs ys : List AV} {A B : Array Value} {b : Bool} (hu : P.underlying kt = some (.struct fs)) (h : keyS P kt fs xs ys = some b) (r : relL μ xs A.toList) (s : relL μ ys B.toList) :
  (Op.equal kt (.agg A) (.agg B)).run P w = .ok b w /\ (b = true -> A = B) := by
 unfold keyS at h
 split at h
 ·cases h
 ·rename_i hs
  have hf : P.fieldsOf kt = fs := by simp [Program.fieldsOf, hu]
  obtain ⟨h1, h2⟩ := zFM (w := w) (n := 9998) (A := A) (B := B) h (by simpa using r) (by simpa using s)
  refine ⟨?_, fun hb => ?_⟩
  ·show (Op.equalIn (9999 + 1) kt (.agg A) (.agg B)).run P w = .ok b w
   rw [run_equalIn_struct w 9999 kt A B (by rw [hf]; exact hu) hs, hf]
   exact h1
  ·have := h2 hb
   simp only [List.drop_zero] at this
   exact Array.toList_inj.1 this
theorem zH2 {n : Nat} {t : TypeId} (ht : tsz P t = 1) {A B : Array Value} : ∀ {xs ys : List AV} {off : Nat} {b : Bool}, zJE P t xs ys = some b -> relL μ xs (A.toList.drop off) -> relL μ ys (B.toList.drop off) ->
  (Op.eqItems (n + 1) t (P.cellsOf t) A B (List.range' off xs.length)).run P w = .ok b w /\ (b = true -> A.toList.drop off = B.toList.drop off)
 | [], [], off, b, h, r, s => by
  simp only [zJE, Option.some.injEq] at h
  subst h
  exact ⟨by simp [Op.eqItems], fun _ => by rw [show A.toList.drop off = [] from r, show B.toList.drop off = [] from s]⟩
 | [], _ :: _, off, b, h, r, s => by simp [zJE] at h
 | _ :: _, [], off, b, h, r, s => by simp [zJE] at h
 | x :: xs, y :: ys, off, b, h, r, s => by
  simp only [zJE] at h
  split at h
  ·rename_i b1 b2 g2 g3
   cases h
   obtain ⟨v, hv, r1, r2, r3⟩ := kK r
   obtain ⟨u, hu, s1, s2, s3⟩ := kK s
   obtain ⟨d, hd, hta, he, hb⟩ := zFO (w := w) g2 r1 s1 n
   obtain ⟨hr, hrb⟩ := zH2 ht g3 r3 s3
   have hc : P.cellsOf t = 1 := ht
   have p1 : (Go.part t A off).run P w = .ok v w := jR hd hta hv
   have p2 : (Go.part t B off).run P w = .ok u w := jR hd hta hu
   refine ⟨?_, fun hbb => ?_⟩
   ·rw [List.length_cons, List.range'_succ]
    simp only [Op.eqItems, hc, Nat.mul_one, Sem.run_bind, p1, p2, he, Result.andThen_ok]
    rw [hc] at hr
    cases b1
    ·simp
    ·simpa using hr
   ·simp only [Bool.and_eq_true] at hbb
    rw [r2, s2, hb hbb.1, hrb hbb.2]
  ·cases h
theorem zQN {kt t : TypeId} {n : Nat} {xs ys : List AV} {A B : Array Value} {b : Bool} (hu : P.underlying kt = some (.array n t)) (h : keyA P n t xs ys = some b) (r : relL μ xs A.toList) (s : relL μ ys B.toList) :
  (Op.equal kt (.agg A) (.agg B)).run P w = .ok b w /\ (b = true -> A = B) := by
 unfold keyA at h
 split at h
 ·rename_i hs
  simp only [Bool.and_eq_true, beq_iff_eq] at hs
  obtain ⟨i, hi, hc⟩ := zJ4 hs.2.2
  obtain ⟨h1, h2⟩ := zH2 (w := w) (n := 9998) (A := A) (B := B) (off := 0) hs.2.2 h (by simpa using r) (by simpa using s)
  refine ⟨?_, fun hb => ?_⟩
  ·show (Op.equalIn (9999 + 1) kt (.agg A) (.agg B)).run P w = .ok b w
   rw [run_equalIn_array w 9999 A B hu hi, List.range_eq_range', <- hs.1]
   exact h1
  ·have := h2 hb
   simp only [List.drop_zero] at this
   exact Array.toList_inj.1 this
 ·cases h
theorem zOA {kt : TypeId} (hu : (match P.underlying kt with | some (.array _ _) | some (.struct _) => true | _ => false) = true) {a b : AV} {va vb : Value} (ha : a.rel μ va) (hb : b.rel μ vb) {KB : Bool -> Prop} (hk : zCM P kt a b KB) :
  ∃ r, (Op.equal kt va vb).run P w = .ok r w /\ KB r /\ (r = true -> va = vb) := by
 unfold zCM at hk
 split at hk
 ·rename_i heq; rw [heq] at hu; cases hu
 ·rename_i heq; rw [heq] at hu; cases hu
 ·rename_i heq; rw [heq] at hu; cases hu
 ·rename_i heq
  split at hk
  ·rename_i b hb'
   obtain ⟨A, rfl, hA⟩ := ha
   obtain ⟨B, rfl, hB⟩ := hb
   obtain ⟨g1, g3⟩ := zQM (w := w) heq hb' hA hB
   exact ⟨b, g1, hk, fun h => by rw [g3 h]⟩
  ·exact hk.elim
 ·rename_i heq
  split at hk
  ·rename_i b hb'
   obtain ⟨A, rfl, hA⟩ := ha
   obtain ⟨B, rfl, hB⟩ := hb
   obtain ⟨g1, g3⟩ := zQN (w := w) heq hb' hA hB
   exact ⟨b, g1, hk, fun h => by rw [g3 h]⟩
  ·exact hk.elim
 ·exact hk.elim
theorem zIA {kt : TypeId} (hu : (match P.underlying kt with | some (.array _ _) | some (.struct _) => true | _ => false) = true) {k : AV} {vk : Value} (hkv : k.rel μ vk) : ∀ {es : List (AV × AV × Nat)} {ES : List MapEntry} {i : Nat} {KR : Option (Nat × AV × Nat) -> Prop},
  relM μ es ES -> vB P kt k es i KR ->
  ((Instr.findAsking kt vk ES i).run P w = .ok none w /\ KR none) ∨ ∃ (j : Nat) (k' v : AV) (n : Nat) (E : MapEntry), (Instr.findAsking kt vk ES i).run P w = .ok (some (i + j, E.val)) w /\ KR (some (i + j, v, n)) /\ es[j]? = some (k', v, n) /\ ES[j]? = some E /\ v.rel μ E.val /\ E.key = vk /\ E.born = n
 | [], ES, i, KR, r, hk => by
  obtain rfl : ES = [] := r
  exact .inl ⟨by simp [Instr.findAsking], hk⟩
 | (k', v, n) :: es, _, i, KR, ⟨E, Es, h1, h2, h3, h4, h5⟩, hk => by
  subst h1
  simp only [vB] at hk
  obtain ⟨r, g1, g2, g3⟩ := zOA (w := w) hu hkv h2 hk
  rcases vE g2 with ⟨rfl, g2⟩ | ⟨rfl, g2⟩
  ·right
   exact ⟨0, _, v, n, E, by simp [Instr.findAsking, g1], g2, rfl, rfl, h3, (g3 rfl).symm, h4⟩
  ·rcases zIA hu hkv h5 g2 with ⟨f1, f2⟩ | ⟨j, k2, v2, n2, E2, f1, f2, f3, f4, f5, f6, f7⟩
   ·left
    exact ⟨by simp only [Instr.findAsking, Sem.run_bind, g1, Result.andThen_ok]; simpa using f1, f2⟩
   ·right
    refine ⟨j + 1, k2, v2, n2, E2, ?_, ?_, by simpa using f3, by simpa using f4, f5, f6, f7⟩
    ·simp only [Instr.findAsking, Sem.run_bind, g1, Result.andThen_ok]
     rw [show i + (j + 1) = i + 1 + j by omega]
     simpa using f1
    ·rw [show i + (j + 1) = i + 1 + j by omega]; exact f2
theorem zLW {kt : TypeId} {k : AV} (h : zAR P kt k = true) : ∃ d, P.underlying kt = some d := by
 unfold zAR at h
 cases hu : P.underlying kt with
 | none => rw [hu] at h; simp at h
 | some d => exact ⟨d, rfl⟩
theorem zEQ {kt : TypeId} {k : AV} {vk : Value} (hkv : k.rel μ vk) (hok : zAR P kt k = true) {es : List (AV × AV × Nat)} {ES : List MapEntry} {KR : Option (Nat × AV × Nat) -> Prop} (r : relM μ es ES) (hk : vB P kt k es 0 KR) :
  ((Instr.findKey kt vk ES).run P w = .ok none w /\ KR none) ∨ ∃ (j : Nat) (k' v : AV) (n : Nat) (E : MapEntry), (Instr.findKey kt vk ES).run P w = .ok (some (j, E.val)) w /\ KR (some (j, v, n)) /\ es[j]? = some (k', v, n) /\ ES[j]? = some E /\ v.rel μ E.val /\ E.key = vk /\ E.born = n := by
 obtain ⟨d, hd⟩ := zLW hok
 by_cases hs : (match P.underlying kt with | some (.array _ _) | some (.struct _) => true | _ => false) = true
 ·rw [run_findKey_eq w hs]
  have := zIA (w := w) hs hkv r hk
  simpa only [Nat.zero_add] using this
 ·have hns : ∀ fs, d ≠ .struct fs := fun fs h => hs (by rw [hd, h])
  have hna : ∀ n e, d ≠ .array n e := fun n e h => hs (by rw [hd, h])
  rcases zH9 hd hns hna hkv r hk with ⟨g1, g2⟩ | ⟨j, k', v, n, E, g1, g2, g3⟩
  ·exact .inl ⟨MapKept.run_findKey hd g1, g2⟩
  ·rw [Nat.zero_add] at g1 g2
   exact .inr ⟨j, k', v, n, E, MapKept.run_findKey hd g1, g2, g3⟩
theorem zAY (R : Rel μ0 h0 w0 μ lam L h w) {b cl : Nat} {es : List (AV × AV × Nat)} (hb : h[b]? = some (.mp es cl)) {v : Value} (hv : AV.rel μ (.map (some b)) v) :
  ∃ (e : ME) (ES : Array MapEntry), μ[b]? = some e /\ v = .map (some e.r) /\ w.heap[e.r]? = some (.map ES cl) /\ relM μ es ES.toList := by
 obtain ⟨e, he, hv⟩ := hv
 obtain ⟨ES, h1, h2⟩ := R.heap.blk b _ e hb he
 exact ⟨e, ES, he, hv, h1, h2⟩
theorem zLO (R : Rel μ0 h0 w0 μ lam L h w) {t kt et : TypeId} (ht : P.underlying t = some (.map kt et)) {m : Option Nat} {vm : Value} (hm : AV.rel μ (.map m) vm) {k : AV} {vk : Value} (hkv : k.rel μ vk) {ok : Bool}
  (hk : xP P kt et m k ok h fun v => K (.val v) L h) : Out P μ0 h0 w0 μ lam w (Instr.lookup t vm vk ok) K := by
 unfold xP at hk
 split at hk
 ·rename_i es z hes hz
  obtain ⟨h1, hk⟩ := zG hk
  obtain ⟨hchk, hbits⟩ := zBG (w := w) hkv h1
  obtain ⟨i, zv, hi, hiz, hzz⟩ := zAU hz
  have hzr : z.rel μ zv := zC5 μ 4 zv z hzz
  have hzero : (zeroValue et).run P w = .ok zv w := by simp [zeroValue, typeInfo, hi, hiz]
  obtain ⟨ES, hrel, hget⟩ : ∃ ES : Array MapEntry, relM μ es ES.toList /\ ∀ (r' : Option (Nat × Value)) (v : Value), (Instr.findKey kt vk ES.toList).run P w = .ok r' w ->
    (v = match r' with | some (_, v) => (if ok then .tuple #[v, .bool true] else v) | none => (if ok then .tuple #[zv, .bool false] else zv)) -> (Instr.lookup t vm vk ok).run P w = .ok v w := by
   cases m with
   | none =>
    obtain rfl : vm = _ := hm
    simp only [zE4, Option.some.injEq] at hes
    subst hes
    refine ⟨#[], rfl, fun r' v hf hv => ?_⟩
    unfold Instr.lookup
    simp only [Sem.run_bind, run_underlying ht, Result.andThen_ok, Sem.run_pure, hchk, hf]
    cases r' with
    | none => simp [hzero, hv]
    | some p => simp [hv]
   | some b =>
    simp only [zE4] at hes
    split at hes
    ·rename_i es' cl hb
     cases hes
     obtain ⟨e, ES, he, rfl, h2, h3⟩ := zAY R hb hm
     refine ⟨ES, h3, fun r' v hf hv => ?_⟩
     unfold Instr.lookup
     simp only [Sem.run_bind, run_underlying ht, Result.andThen_ok, Sem.run_pure, MapKept.run_getObj_map h2, hchk, hf]
     cases r' with
     | none => simp [hzero, hv]
     | some p => simp [hv]
    ·cases hes
  rcases zEQ (w := w) hkv h1 hrel hk with ⟨g1, g2⟩ | ⟨j, k', v, n, E, g1, g2, g3, g4, g5, g6, g7⟩
  ·refine Out.same R (hget _ _ g1 rfl) g2 ?_
   cases ok
   ·exact hzr
   ·exact ⟨_, rfl, ⟨zv, [.bool false], rfl, hzr, _, _, rfl, rfl, rfl⟩⟩
  ·refine Out.same R (hget _ _ g1 rfl) g2 ?_
   cases ok
   ·exact g5
   ·exact ⟨_, rfl, ⟨E.val, [.bool true], rfl, g5, _, _, rfl, rfl, rfl⟩⟩
 ·exact hk.elim
theorem zAF {r : Nat} {ES : Array MapEntry} {cl : Nat} (hb : w.heap[r]? = some (.map ES cl)) (o : Obj) : (setObj r o).run P w = .ok () (w.setBlk r o) := run_setObj_map o hb
theorem zFI (R : Rel μ0 h0 w0 μ lam L h w) {t kt et : TypeId} (ht : P.underlying t = some (.map kt et)) {b : Nat} {vm : Value} (hm : AV.rel μ (.map (some b)) vm) {k v : AV} {vk vv : Value} (hkv : k.rel μ vk) (hvv : v.rel μ vv)
  {KH : Heap -> Prop} (hk : xZ P kt b k v h KH) : ∃ w' h', (Instr.mapUpdate t vm vk vv).run P w = .ok () w' /\ KH h' /\ Rel μ0 h0 w0 μ lam L h' w' := by
 unfold xZ at hk
 split at hk
 ·rename_i es cl hb
  obtain ⟨h1, hk⟩ := zG hk
  simp only [Bool.and_eq_true] at h1
  obtain ⟨hchk, hbits⟩ := zBG (w := w) hkv h1.1
  obtain ⟨e, ES, he, rfl, h2, h3⟩ := zAY R hb hm
  have hlt := kD h2
  rcases zEQ (w := w) hkv h1.1 h3 hk with ⟨g1, g2⟩ | ⟨j, k', v', n, E, g1, g2, g3, g4, g5, g6, g7⟩
  ·refine ⟨w.setBlk e.r (.map (ES.push ⟨vk, vv, cl⟩) (cl + 1)), _, ?_, g2, R.setB hb rfl he rfl h2 ?_⟩
   ·unfold Instr.mapUpdate
    simp only [Sem.run_bind, run_underlying ht, Result.andThen_ok, MapKept.run_getObj_map h2, hchk, g1, zAF h2]
   ·refine ⟨_, xC _ _ _ hlt, relM.of_get (by simp [h3.length]) fun i x E' hx hE => ?_⟩
    have hl := h3.length
    simp at hl
    simp only [Array.toList_push] at hE
    rw [List.getElem?_append] at hx hE
    split at hx
    ·rename_i hi
     rw [if_pos (by simp [hl, hi])] at hE
     obtain ⟨E2, q1, q2⟩ := h3.get hx
     rw [q1] at hE; cases hE; exact q2
    ·rename_i hi
     rw [if_neg (by simp [hl]; omega)] at hE
     have : i - es.length = 0 := by have := zD hx; simp at this; omega
     rw [this] at hx
     rw [show i - ES.toList.length = 0 by simp [hl]; omega] at hE
     simp at hx hE
     subst hx; subst hE
     exact ⟨hkv, hvv, rfl⟩
  ·refine ⟨w.setBlk e.r (.map (ES.modify j fun e => { e with key := vk, val := vv }) cl), _, ?_, g2, R.setB hb rfl he rfl h2 ?_⟩
   ·unfold Instr.mapUpdate
    have hstay : (Instr.keyThatStays (((ES[j]?).map (·.key)).getD vk) vk).run P w = .ok vk w := by
     have : (((ES[j]?).map (·.key)).getD vk) = vk := by
      have : ES[j]? = some E := by simpa using g4
      rw [this]; simpa using g6
     rw [this]
     unfold Instr.keyThatStays
     rw [hbits]
     rfl
    simp only [Sem.run_bind, run_underlying ht, Result.andThen_ok, MapKept.run_getObj_map h2, hchk, g1]
    rw [hstay]
    simp only [Result.andThen_ok]
    rw [zAF h2]
   ·refine ⟨_, xC _ _ _ hlt, relM.of_get (by simp [h3.length]; try (have := h3.length; simpa using this)) fun i x E' hx hE => ?_⟩
    have hE' : (ES.modify j fun e => { e with key := vk, val := vv })[i]? = some E' := by rw [<- Array.getElem?_toList]; exact hE
    rw [Array.getElem?_modify] at hE'
    rw [List.getElem?_set] at hx
    by_cases hij : j = i
    ·subst hij
     rw [if_pos rfl] at hx hE'
     rw [if_pos (zD g3)] at hx
     have : ES[j]? = some E := by simpa using g4
     rw [this] at hE'
     simp at hE' hx
     subst hE'; subst hx
     exact ⟨hkv, hvv, g7⟩
    ·rw [if_neg hij] at hx hE'
     obtain ⟨E2, q1, q2⟩ := h3.get hx
     have : ES[i]? = some E2 := by simpa using q1
     rw [this] at hE'; simp at hE'; subst hE'; exact q2
 ·exact hk.elim
theorem zLP (R : Rel μ0 h0 w0 μ lam L h w) {t u kt et ty : TypeId} (ht : P.underlying t = some (.map kt et)) {m : Option Nat} {vm : Value} (hm : AV.rel μ (.map m) vm) {k : AV} {vk : Value} (hkv : k.rel μ vk)
  {KH : Heap -> Prop} (hk : vC P kt m k h KH) : ∃ w' h', (Builtin.delete_ #[t, u] ty #[vm, vk]).run P w = .ok (.tuple #[]) w' /\ KH h' /\ Rel μ0 h0 w0 μ lam L h' w' := by
 unfold vC at hk
 split at hk
 ·obtain rfl : vm = _ := hm
  obtain ⟨h1, hk⟩ := zG hk
  obtain ⟨hchk, hbits⟩ := zBG (w := w) hkv h1
  refine ⟨w, h, ?_, hk, R⟩
  unfold Builtin.delete_
  simp [run_underlying ht, hchk]
 ·rename_i b
  split at hk
  ·rename_i es cl hb
   obtain ⟨h1, hk⟩ := zG hk
   obtain ⟨hchk, hbits⟩ := zBG (w := w) hkv h1
   obtain ⟨e, ES, he, rfl, h2, h3⟩ := zAY R hb hm
   have hlt := kD h2
   rcases zEQ (w := w) hkv h1 h3 hk with ⟨g1, g2⟩ | ⟨j, k', v', n, E, g1, g2, g3, g4, g5, g6, g7⟩
   ·refine ⟨w.setBlk e.r (.map ES cl), _, ?_, g2, R.setB hb rfl he rfl h2 ⟨_, xC _ _ _ hlt, h3⟩⟩
    unfold Builtin.delete_
    simp [run_underlying ht, hchk, MapKept.run_getObj_map h2, g1, zAF h2]
   ·refine ⟨w.setBlk e.r (.map (ES.eraseIdxIfInBounds j) cl), _, ?_, g2, R.setB hb rfl he rfl h2 ⟨_, xC _ _ _ hlt, ?_⟩⟩
    ·unfold Builtin.delete_
     simp [run_underlying ht, hchk, MapKept.run_getObj_map h2, g1, zAF h2]
    ·have hj : j < ES.size := by have := zD g4; simpa using this
     have e1 : (ES.eraseIdxIfInBounds j).toList = ES.toList.eraseIdx j := by
      unfold Array.eraseIdxIfInBounds
      rw [dif_pos hj]
      exact Array.toList_eraseIdx ..
     rw [e1]
     have hl := h3.length
     refine relM.of_get (by rw [List.length_eraseIdx, List.length_eraseIdx, hl]) fun i x E' hx hE => ?_
     rw [List.getElem?_eraseIdx] at hx hE
     split at hx
     ·rename_i hi
      rw [if_pos hi] at hE
      obtain ⟨E2, q1, q2⟩ := h3.get hx
      rw [q1] at hE; cases hE; exact q2
     ·rename_i hi
      rw [if_neg hi] at hE
      obtain ⟨E2, q1, q2⟩ := h3.get hx
      rw [q1] at hE; cases hE; exact q2
  ·exact hk.elim
theorem zI7 (R : Rel μ0 h0 w0 μ lam L h w) {t : TypeId} (hk : K (.val (.map (some h.length))) L (h ++ [.mp [] 0])) : Out P μ0 h0 w0 μ lam w (Instr.makeMap t none) K := by
 have hlen := R.heap.len
 refine ⟨.map (some w.heap.size), w.alloc (.map #[] 0), _, _, _, _, lam, ?_, hk, R.allocB (.mp [] 0) (.map #[] 0) 0 ⟨#[], xN _ _, rfl⟩, Ren.le_append _ _, xS.refl _, ?_⟩
 ·rfl
 ·exact ⟨⟨w.heap.size, 0, 0⟩, by rw [<- hlen]; simp, rfl⟩
theorem zNU (R : Rel μ0 h0 w0 μ lam L h w) {t kt et : TypeId} (ht : P.underlying t = some (.map kt et)) {m : Option Nat} {vm : Value} (hm : AV.rel μ (.map m) vm)
  (hk : zFA m h fun b h' => K (.val (.ptr (some ⟨b, 0⟩))) L h') : Out P μ0 h0 w0 μ lam w (Instr.range t vm) K := by
 have hlen := R.heap.len
 cases m with
 | none =>
  obtain rfl : vm = _ := hm
  refine ⟨.pointer (some ⟨w.heap.size, 0, none⟩), w.alloc (.mapIter none 0 #[] 0), _, _, _, _, lam, ?_, hk, R.allocB (.it none 0 [] 0) (.mapIter none 0 #[] 0) 0 ⟨rfl, none, xN _ _, rfl⟩, Ren.le_append _ _, xS.refl _, ?_⟩
  ·simp [Instr.range, run_underlying ht]
  ·exact ⟨⟨w.heap.size, 0, 0⟩, by rw [<- hlen]; simp, rfl⟩
 | some b =>
  simp only [zFA] at hk
  split at hk
  ·rename_i es cl hb
   obtain ⟨e, ES, he, rfl, h2, h3⟩ := zAY R hb hm
   refine ⟨.pointer (some ⟨w.heap.size, 0, none⟩), w.alloc (.mapIter (some e.r) cl #[] cl), _, _, _, _, lam, ?_, hk,
    R.allocB (.it (some b) cl [] cl) (.mapIter (some e.r) cl #[] cl) 0 ⟨rfl, some e.r, xN _ _, e, Ren.le_append _ _ _ _ he, rfl⟩, Ren.le_append _ _, xS.refl _, ?_⟩
   ·simp [Instr.range, run_underlying ht, MapKept.run_getObj_map h2]
   ·exact ⟨⟨w.heap.size, 0, 0⟩, by rw [<- hlen]; simp, rfl⟩
  ·exact hk.elim
theorem zGU (R : Rel μ0 h0 w0 μ lam L h w) {b since last : Nat} {m : Option Nat} {seen : List Nat} (hb : h[b]? = some (.it m since seen last)) {v : Value} (hv : AV.rel μ (.ptr (some ⟨b, 0⟩)) v) :
  ∃ (e : ME) (mm : Option Nat), μ[b]? = some e /\ v = .pointer (some ⟨e.r, 0, none⟩) /\ w.heap[e.r]? = some (.mapIter mm since seen.toArray last) /\ relO μ m mm /\ e.s = 0 := by
 obtain ⟨e, he, hv⟩ := hv
 obtain ⟨h0, mm, h1, h2⟩ := R.heap.blk b _ e hb he
 exact ⟨e, mm, he, by rw [hv]; simp [h0], h1, h2, h0⟩
theorem relM.filter {μ : Ren} (p : Nat -> Bool) : ∀ {es : List (AV × AV × Nat)} {l : List MapEntry}, relM μ es l -> relM μ (es.filter fun e => p e.2.2) (l.filter fun E => p E.born)
 | [], _, r => by rw [show _ = [] from r]; rfl
 | (k, v, n) :: es, _, ⟨E, Es, h1, h2, h3, h4, h5⟩ => by
  subst h1
  subst h4
  cases hp : p E.born with
  | true => simp only [List.filter, hp]; exact ⟨E, _, rfl, h2, h3, rfl, h5.filter p⟩
  | false => simp only [List.filter, hp]; exact h5.filter p
theorem zKZ {KE : AV × AV × Nat -> Prop} : ∀ {l : List (AV × AV × Nat)}, allE l KE -> ∀ x ∈ l, KE x
 | [], _, x, hx => by simp at hx
 | [e], h, x, hx => by simp at hx; subst hx; exact h
 | e :: e' :: es, ⟨h1, h2⟩, x, hx => by
  rcases List.mem_cons.1 hx with rfl | hx
  ·exact h1
  ·exact zKZ h2 x hx
theorem zAG {r : Nat} {a : Option Nat} {b d : Nat} {c : Array Nat} (h : w.heap[r]? = some (.mapIter a b c d)) : (getObj r).run P w = .ok (.mapIter a b c d) w := by simp [getObj, Sem.run, h]
theorem zGE {r : Nat} {a : Option Nat} {b d : Nat} {c : Array Nat} (o' : Obj) (h : w.heap[r]? = some (.mapIter a b c d)) : (setObj r o').run P w = .ok () (w.setBlk r o') := by
 simp [setObj, Sem.run, h, World.setBlk]
theorem zP8 (R : Rel μ0 h0 w0 μ lam L h w) {b : Nat} {ty : TypeId} {v : Value} (hv : AV.rel μ (.ptr (some ⟨b, 0⟩)) v) (hk : PNext b h fun x h' => K (.val x) L h') : Out P μ0 h0 w0 μ lam w (Instr.next v false ty) K := by
 unfold PNext at hk
 split at hk
 ·rename_i s1 s2 s3 hb
  obtain ⟨e, mm, he, rfl, h1, h2, h3⟩ := zGU R hb hv
  obtain rfl : mm = none := h2
  refine Out.same R (v := .tuple #[.bool false]) ?_ hk ⟨_, rfl, _, _, rfl, rfl, rfl⟩
  simp only [Instr.next, Sem.run_bind, zAG h1, Result.andThen_ok]
  rfl
 ·rename_i m since seen last hb
  obtain ⟨e, mm, he, rfl, h1, h2, h3⟩ := zGU R hb hv
  obtain ⟨em, hem, rfl⟩ := h2
  split at hk
  ·rename_i es cl hm
   obtain ⟨hall, hk⟩ := zG hk
   simp only [List.all_eq_true, Bool.and_eq_true, decide_eq_true_eq] at hall
   obtain ⟨ES, g1, g2⟩ := R.heap.blk m _ em hm hem
   have hES : ∀ E ∈ ES.toList, E.born < since /\ E.born < last := by
    intro E hE
    obtain ⟨i, hi⟩ := List.getElem?_of_mem hE
    have hl := g2.length
    have hlt := zD hi
    obtain ⟨E', q1, q2, q3, q4⟩ := g2.get (i := i) (x := es[i]'(by omega)) (by simp)
    rw [hi] at q1; cases q1
    rw [q4]
    exact hall _ (List.getElem_mem _)
   have hif : (!seen.toArray.isEmpty && !ES.isEmpty && ES.all (fun x => decide (x.born ≥ last))) = false := by
    cases hemp : ES.isEmpty with
    | true => simp
    | false =>
     have : 0 < ES.size := by
      rcases Nat.eq_zero_or_pos ES.size with h0 | h0
      ·simp [Array.isEmpty, h0] at hemp
      ·exact h0
     have hx := hES ES[0] (by simp)
     have : ES.all (fun x => decide (x.born ≥ last)) = false := by
      rw [Bool.eq_false_iff]
      intro hh
      have := (Array.all_eq_true.1 hh) 0 this
      simp at this
      omega
     simp [this]
   have hfl : (ES.filter fun e => !seen.toArray.contains e.born).toList = ES.toList.filter fun E => !seen.contains E.born := by
    rw [Array.toList_filter]
    congr 1
    funext E
    simp [Array.contains_eq_mem, List.contains_eq_mem]
   have hleft := g2.filter fun n => !seen.contains n
   rw [<- hfl] at hleft
   generalize hLdef : (ES.filter fun e => !seen.toArray.contains e.born) = Lft at hleft
   have hmemL : ∀ x ∈ Lft.toList, x.born < since := by
    intro x hx
    rw [<- hLdef] at hx
    rw [Array.toList_filter] at hx
    exact (hES x (List.mem_filter.1 hx).1).1
   have e1 : Lft.filter (fun x => decide (x.born < since)) = Lft := Array.filter_eq_self.2 (fun x hx => by simpa using hmemL x (by simpa using hx))
   have e2 : Lft.filter (fun x => decide (x.born ≥ since)) = #[] := by
    rw [Array.filter_eq_empty_iff]
    intro x hx
    have := hmemL x (by simpa using hx)
    simp
    omega
   obtain ⟨msg, hrun0⟩ : ∃ msg : String, ∀ (X : Result Value), ((do
     let candidates := (if Lft.isEmpty then #[none] else #[]) ++ Lft.map some
     match candidates[<- choose (.mapNext candidates.size)]? with
     | some (some e') => do
      setObj e.r (.mapIter (some em.r) since (seen.toArray.push e'.born) cl)
      pure (.tuple #[.bool true, e'.key, e'.val])
     | some none => pure (.tuple #[.bool false])
     | none => stuck msg : Sem Value).run P w = X) -> (Instr.next (.pointer (some ⟨e.r, 0, none⟩)) false ty).run P w = X := by
    apply Exists.intro
    intro X hX
    rw [<- hX]
    simp only [Instr.next, Sem.run_bind, zAG h1, MapKept.run_getObj_map g1, Result.andThen_ok, hif, Bool.false_eq_true, if_false, hLdef, e1, e2, Array.append_empty]
    rfl
   have hlenL := hleft.length
   split at hk
   ·rename_i hnil
    have : zB1 es seen = [] := hnil
    unfold zB1 at this
    rw [this] at hlenL
    have h0 : Lft = #[] := Array.eq_empty_of_size_eq_zero (by simpa using hlenL)
    refine Out.same R (v := .tuple #[.bool false]) (hrun0 _ ?_) hk ⟨_, rfl, _, _, rfl, rfl, rfl⟩
    rw [h0]
    simp [choose, Sem.run, Question.forced]
   ·rename_i hne
    have hpos : 0 < Lft.size := by
     rcases Nat.eq_zero_or_pos Lft.size with h0 | h0
     ·exfalso
      apply hne
      unfold zB1
      apply List.eq_nil_of_length_eq_zero
      rw [<- hlenL]
      simpa using h0
     ·exact h0
    have hnE : Lft.isEmpty = false := by unfold Array.isEmpty; exact decide_eq_false (by omega)
    have hch : ∃ (j : Nat) (w1 : World), j < Lft.size /\ (w1 = w ∨ w1 = w.drew) /\ (choose (Question.mapNext Lft.size)).run P w = .ok j w1 := by
     by_cases hf : Lft.size <= 1
     ·exact ⟨0, w, by omega, .inl rfl, by simp [choose, Sem.run, Question.forced, hf]⟩
     ·exact ⟨_, w.drew, Nat.mod_lt _ (by omega), .inr rfl, by
       simp only [choose, Sem.run, Question.forced, decide_eq_true_eq, hf, if_false, Question.cut]
       rfl⟩
    obtain ⟨j, w1, hj, hw1, hchr⟩ := hch
    have R1 : Rel μ0 h0 w0 μ lam L h w1 := by
     rcases hw1 with rfl | rfl
     ·exact R
     ·exact R.drawn rfl rfl rfl rfl
    have hh1 : w1.heap = w.heap := by rcases hw1 with rfl | rfl <;> rfl
    have h1' : w1.heap[e.r]? = some (.mapIter (some em.r) since seen.toArray last) := by rw [hh1]; exact h1
    obtain ⟨x, hx⟩ : ∃ x, (zB1 es seen)[j]? = some x := ⟨_, List.getElem?_eq_getElem (by unfold zB1; rw [<- hlenL]; simpa using hj)⟩
    obtain ⟨E, q1, q2, q3, q4⟩ := hleft.get hx
    have hEj : Lft[j] = E := by
     have : Lft[j]? = some E := by simpa using q1
     rw [Array.getElem?_eq_getElem hj] at this
     exact Option.some.inj this
    have hKx := zKZ hk x (List.mem_of_getElem? hx)
    refine ⟨.tuple #[.bool true, E.key, E.val], w1.setBlk e.r (.mapIter (some em.r) since (seen.toArray.push E.born) cl), _, _, _, μ, lam, hrun0 _ ?_, hKx, ?_, .refl _, xS.refl _, ?_⟩
    ·simp only [hnE, Bool.false_eq_true, if_false, Array.empty_append, Array.size_map, Sem.run_bind, hchr, Result.andThen_ok, Array.getElem?_map, Array.getElem?_eq_getElem hj, Option.map_some, hEj]
     rw [zGE _ h1']
     rfl
    ·refine R1.setB hb rfl he rfl h1' ⟨h3, some em.r, ?_, em, hem, rfl⟩
     rw [xC _ _ _ (kD h1'), q4]
     simp
    ·exact ⟨_, rfl, _, _, rfl, rfl, _, _, rfl, q2, _, _, rfl, q3, rfl⟩
  ·exact hk.elim
 ·exact hk.elim
theorem relM.find {μ : Ren} (stamp : Nat) : ∀ {es : List (AV × AV × Nat)} {l : List MapEntry}, relM μ es l -> ∀ {x}, es.find? (fun e => e.2.2 == stamp) = some x -> ∃ E, l.find? (fun E => E.born == stamp) = some E /\ x.1.rel μ E.key /\ x.2.1.rel μ E.val
 | [], _, _, x, hx => by simp at hx
 | (k, v, n) :: es, _, ⟨E, Es, h1, h2, h3, h4, h5⟩, x, hx => by
  subst h1
  subst h4
  cases hp : E.born == stamp with
  | true => simp only [List.find?, hp] at hx ⊢; cases hx; exact ⟨E, rfl, h2, h3⟩
  | false => simp only [List.find?, hp] at hx ⊢; exact h5.find stamp hx
theorem zHZ (R : Rel μ0 h0 w0 μ lam L h w) {b : Nat} {v : Value} (hv : AV.rel μ (.ptr (some ⟨b, 0⟩)) v) (hk : zBS b h fun x => K (.val x) L h) : Out P μ0 h0 w0 μ lam w (Instr.entry v) K := by
 unfold zBS at hk
 split at hk
 ·rename_i m since seen stepped hb
  obtain ⟨e, mm, he, rfl, h1, h2, h3⟩ := zGU R hb hv
  obtain ⟨em, hem, rfl⟩ := h2
  split at hk
  ·rename_i stamp es cl hl hm
   obtain ⟨hc, hk2⟩ := zG hk
   clear hk
   have hc' : cl = stepped := by simpa using hc
   subst hc'
   obtain ⟨ES, g1, g2⟩ := R.heap.blk m _ em hm hem
   split at hk2
   ·rename_i x hx
    obtain ⟨E, q1, q2, q3⟩ := g2.find stamp hx
    refine Out.same R (v := .tuple #[E.key, E.val]) ?_ hk2 ⟨_, rfl, _, _, rfl, q2, _, _, rfl, q3, rfl⟩
    have hback : seen.toArray.back? = some stamp := by simpa using hl
    have hfind : ES.find? (fun E => E.born == stamp) = some E := by rw [<- Array.find?_toList]; exact q1
    simp only [Instr.entry, Sem.run_bind, zAG h1, Result.andThen_ok, hback, MapKept.run_getObj_map g1]
    simp [hfind]
   ·exact hk2.elim
  ·exact hk.elim
 ·exact hk.elim
end
end Go.Ab
namespace Go.Ab
set_option linter.unusedSimpArgs false
set_option linter.unusedVariables false
def zBK (P : Program) (f : FuncId) : Bool := match P.funcs[f]? with | some fn => fn.body.isSome && !(fn.name == "runtime.NumGoroutine") | none => false
def zQ0 (μ : Ren) (h : Heap) (w : World) (Q : AHp) (e : Ending) (w' : World) : Prop :=
 ∃ v x h' μ', e = .returned v /\ Q x h' /\ Evo μ h w μ' h' w' /\ HRel μ' h' w' /\ x.rel μ' v
def AC (P : Program) (f : FuncId) (args : List AV) (h : Heap) (Q : AHp) : Prop :=
 zBK P f = true /\ ∀ (μ : Ren) (w : World) (vs : List Value), HRel μ h w -> relL μ args vs -> Calls P f vs.toArray w (zQ0 μ h w Q)
section
variable {P : Program} {μ0 : Ren} {h0 : Heap} {w0 : World} {μ : Ren} {lam : List Nat} {L : Locs} {h : Heap} {w : World} {K : KO}
theorem Rel.call (R : Rel μ0 h0 w0 μ lam L h w) {μ' : Ren} {h' : Heap} {w' : World} (hev : Evo μ h w μ' h' w') (hh : HRel μ' h' w') : Rel μ0 h0 w0 μ' lam L h' w' := by
 have same : ∀ k r : Nat, lam[k]? = some r -> w'.heap[r]? = w.heap[r]? := by
  intro k r hk
  refine hev.frame r (R.locs.new k r hk).2 fun b B e hb hB he => ?_
  exact R.locs.sep k r b B e hk hb (by cases B <;> simp_all [Blk.rw, Blk.live]) he
 refine ⟨R.evo.trans hev, hh, ⟨R.locs.len, ?_, R.locs.inj, ?_, ?_⟩⟩
 ·intro k c r hc hr
  obtain ⟨C, t, fz, h1, h2, h3⟩ := R.locs.blk k c r hc hr
  exact ⟨C, t, fz, by rw [same k r hr, h1], relL.mono hev.le _ _ h2, h3⟩
 ·intro k r b B e hk hb hB he
  have hnew := (R.locs.new k r hk).2
  rcases hev.liv b B e hb hB he with h1 | ⟨b0, B0, e0, h1, h2, h3, h4⟩
  ·omega
  ·rw [<- h4]; exact R.locs.sep k r b0 B0 e0 hk h1 h2 h3
 ·intro k r hk
  have := R.locs.new k r hk
  have := hev.size
  omega
theorem zDF {f : FuncId} (hf : zBK P f = true) (args : Array Value) : (callFunc f args).run P w = .ok (.enter f args) w := by
 simp only [zBK] at hf
 split at hf
 ·rename_i fn hfn
  simp only [Bool.and_eq_true, Bool.not_eq_true', Option.isSome_iff_exists] at hf
  obtain ⟨⟨c, hc⟩, hn⟩ := hf
  unfold callFunc
  rw [Sem.run_bind, run_program]
  simp only [Result.andThen_ok, hfn, hn, Bool.false_eq_true, if_false, hc, Option.isNone_some]
  rfl
 ·cases hf
theorem zQB (R : Rel μ0 h0 w0 μ lam L h w) {t u ty e : TypeId} (ht : zDX P t = some e) {s src : OSl} {vs vx : Value} (hs : AV.rel μ (.sl s) vs) (hx : AV.rel μ (.sl src) vx) {i : TypeInfo} (hi : P.info? e = some i)
  {KI : Int -> Heap -> Prop} (hk : zEY (tsz P e) s src h KI) :
  ∃ n w' h', (Builtin.copy_ #[t, u] ty #[vs, vx]).run P w = .ok (.int .i64 n) w' /\ KI n h' /\ Rel μ0 h0 w0 μ lam L h' w' := by
 have hu := kW ht
 obtain ⟨xs, hxs, hxl, hk⟩ := hk
 obtain ⟨a, len, cap, news, rfl, rfl, hnl, hr, hone, ha, hn⟩ := zBV R hx (by
  by_cases h0 : min (zJ src) (zJ s) * tsz P e = 0
  ·exact .inl h0
  ·right
   have : min (zJ src) (zJ s) ≠ 0 := fun hc => h0 (by rw [hc]; simp)
   omega) hxs
 have hsz : tsz P e = i.size := zBD hi
 have hfirst : (Builtin.firstCells i.size (min (zJ src) (zJ s)) (.slice a (zJ src) cap)).run P w = .ok news.toArray w := by
  cases a with
  | none => rw [hn rfl]; exact run_firstCells_none w _ _ _ _
  | some a =>
   exact zAL (w := w) (by rw [hnl, hsz]) (ha a rfl) w rfl
 have hmin : Nat.min (zJ src) (zJ s) = min (zJ src) (zJ s) := rfl
 cases s with
 | none =>
  obtain rfl : vs = _ := hs
  obtain ⟨hn0, hk⟩ := hk
  refine ⟨_, w, h, ?_, hk, R⟩
  unfold Builtin.copy_
  simp only [zJ] at hfirst hn0 ⊢
  simp [run_underlying hu, Builtin.lenOf, sizeOf, typeInfo, hi, hmin, goInt] at hfirst ⊢
  simp [hfirst]
 | some s =>
  obtain ⟨m, c', q, hmm, rfl, hlc, hq, hx1, hx2⟩ := hs
  obtain ⟨hle, hk⟩ := hk
  by_cases hc0 : c' = 0
  ·have hcap : s.cap <= c' := by
    by_cases ho' : s.opn = 0
    ·rw [hx1 ho']; omega
    ·exact (hx2 ho').1
   have hl0 : s.len = 0 := by omega
   have hn0 : min (zJ src) (zJ (some s)) = 0 := by simp [zJ, hl0]
   have hxs0 : xs = [] := by apply List.eq_nil_of_length_eq_zero; rw [hxl, hn0]; simp
   have hnews : news = [] := by apply List.eq_nil_of_length_eq_zero; rw [hnl, hn0]; simp
   subst hxs0; subst hnews
   simp only [zI] at hk
   split at hk
   ·rename_i c hc
    obtain ⟨_, hk⟩ := hk
    rw [jP, zAE hc] at hk
    refine ⟨_, w, h, ?_, hk, R⟩
    unfold Builtin.copy_
    simp only [zJ] at hfirst ⊢
    simp [run_underlying hu, Builtin.lenOf, sizeOf, typeInfo, hi, hmin, goInt, zJ] at hfirst ⊢
    simp [hfirst, kN]
   ·exact hk.elim
  ·have hq' := hq.resolve_left hc0
   obtain ⟨w', h', g1, g2, g3⟩ := zCU (P := P) R (p := ⟨s.b, s.o⟩) (hmm.resolve_right hc0) hr hone hk
   refine ⟨_, w', h', ?_, g2, g3⟩
   rw [<- hq'] at g1
   unfold Builtin.copy_
   simp only [zJ] at hfirst ⊢
   simp [run_underlying hu, Builtin.lenOf, sizeOf, typeInfo, hi, hmin, goInt] at hfirst ⊢
   simp [hfirst, g1]
theorem kA {μ : Ren} {x : AV} {vs : List Value} (h : relL μ [x] vs) : ∃ v, vs = [v] /\ x.rel μ v := by
 obtain ⟨y, ys, hl, hx, h'⟩ := h
 simp only [relL] at h'
 subst h'
 exact ⟨y, hl, hx⟩
theorem zCH {μ : Ren} {x y : AV} {vs : List Value} (h : relL μ [x, y] vs) : ∃ v u, vs = [v, u] /\ x.rel μ v /\ y.rel μ u := by
 obtain ⟨v, ys, hl, hx, h'⟩ := h
 obtain ⟨u, rfl, hy⟩ := kA h'
 exact ⟨v, u, hl, hx, hy⟩
theorem zND (R : Rel μ0 h0 w0 μ lam L h w) {u e' : TypeId} (hu : P.underlying u = some (.slice e')) {sz : Nat} {s : OSl} {v : Value} (hv : AV.rel μ (.sl s) v) {xs : List AV} (hx : kO h s (zJ s * sz) = some xs) :
  ∃ news, Src P u sz v (zJ s) news w /\ relL μ xs news /\ zU xs = true := by
 obtain ⟨a, len, cap, news, rfl, rfl, hnl, hr, hone, ha, hn⟩ := zBV R hv (by
  by_cases h0 : zJ s * sz = 0
  ·exact .inl h0
  ·right
   have : zJ s ≠ 0 := fun hc => h0 (by rw [hc]; simp)
   omega) hx
 refine ⟨news, ⟨.inl ⟨e', hu⟩, rfl, ?_⟩, hr, hone⟩
 cases a with
 | none =>
  intro w' _
  rw [hn rfl]; exact run_firstCells_none w' _ _ _ _
 | some a =>
  exact zAL (w := w) hnl (ha a rfl)
theorem zLC {u : TypeId} (hu : P.underlying u = some .string) (s : List UInt8) : Src P u 1 (.string ⟨s.toArray⟩) s.length (s.map fun b => Value.int .u8 b.toNat) w := by
 refine ⟨.inr hu, by simp [Builtin.lenOf, ByteArray.size], fun w' _ => ?_⟩
 simp only [Builtin.firstCells, Sem.run_pure]
 congr 1
 apply Array.ext'
 simp [ByteArray.data_extract]
theorem zJH {u : TypeId} (h : zOG P u = true) : ∃ k, P.underlying u = some (.int k) := by
 simp only [zOG] at h
 split at h
 ·rename_i k hk; exact ⟨k, hk⟩
 ·cases h
theorem zJG {u : TypeId} (h : zOF P u = true) : P.underlying u = some .string := by
 simp only [zOF] at h
 split at h
 ·assumption
 ·cases h
theorem zI9 (R : Rel μ0 h0 w0 μ lam L h w) {b : Builtin} {argT : List TypeId} {ty : TypeId} {args : List AV} {vs : List Value} (hv : relL μ args vs) (hk : xK P b argT args L h K) (cs : Array Bool) :
  ∃ v w' lv L' h' μ', (builtin b argT.toArray ty cs vs.toArray).run P w = .ok (.value v) w' /\ K lv L' h' /\ Rel μ0 h0 w0 μ' lam L' h' w' /\ Ren.le μ μ' /\ lv.rel μ' lam v := by
 have simple : ∀ {v : Value} {lv : LV} (s : Sem Value), builtin b argT.toArray ty cs vs.toArray = (do pure (.value (<- s))) -> s.run P w = .ok v w -> K lv L h -> lv.rel μ lam v ->
   ∃ v w' lv L' h' μ', (builtin b argT.toArray ty cs vs.toArray).run P w = .ok (.value v) w' /\ K lv L' h' /\ Rel μ0 h0 w0 μ' lam L' h' w' /\ Ren.le μ μ' /\ lv.rel μ' lam v := by
  intro v lv s e1 e2 e3 e4
  exact ⟨v, w, lv, L, h, μ, by rw [e1, Sem.run_bind, e2]; rfl, e3, R, .refl _, e4⟩
 unfold xK at hk
 split at hk
 ·rename_i t s
  obtain ⟨v, rfl, hs⟩ := kA hv
  split at hk
  ·rename_i e hu
   refine simple (v := .int .i64 (zJ s)) (Builtin.len_ #[t] ty #[v]) rfl ?_ hk rfl
   cases s with
   | none => obtain rfl : v = _ := hs; simp [Builtin.len_, run_underlying hu, goInt, zJ]
   | some s => obtain ⟨m, c', q, hm, rfl, _⟩ := hs; simp [Builtin.len_, run_underlying hu, goInt, zJ]
  ·exact hk.elim
 ·rename_i t s
  obtain ⟨v, rfl, hs⟩ := kA hv
  obtain rfl : v = _ := hs
  split at hk
  ·rename_i hu
   exact simple (v := .int .i64 s.length) (Builtin.len_ #[t] ty #[_]) rfl (by
    have : (⟨s.toArray⟩ : ByteArray).size = s.length := by simp [ByteArray.size]
    simp only [Builtin.len_]
    simp [run_underlying hu, goInt]
    exact congrArg _ this) hk rfl
  ·exact hk.elim
 ·rename_i t m
  obtain ⟨v, rfl, hs⟩ := kA hv
  split at hk
  ·rename_i kt et hu
   unfold zG5 at hk
   split at hk
   rotate_left
   ·exact hk.elim
   rename_i es hes
   cases m with
   | none =>
    obtain rfl : v = _ := hs
    simp only [zE4, Option.some.injEq] at hes
    subst hes
    exact simple (v := .int .i64 0) (Builtin.len_ #[t] ty #[_]) rfl (by simp [Builtin.len_, run_underlying hu, goInt]) hk rfl
   | some b =>
    simp only [zE4] at hes
    split at hes
    ·rename_i es' cl hb
     cases hes
     obtain ⟨e, ES, he, rfl, h2, h3⟩ := zAY R hb hs
     have hl := h3.length
     refine simple (v := .int .i64 es.length) (Builtin.len_ #[t] ty #[_]) rfl ?_ hk rfl
     simp only [Builtin.len_]
     simp [run_underlying hu, goInt, MapKept.run_getObj_map h2]
     have : ES.size = es.length := by simpa using hl
     rw [this]
    ·cases hes
  ·exact hk.elim
 ·rename_i t u m k
  obtain ⟨v, y, rfl, hs, hx⟩ := zCH hv
  split at hk
  ·rename_i kt et hu
   obtain ⟨w', h', g1, g2, g3⟩ := zLP (P := P) (u := u) (ty := ty) R hu hs hx hk
   refine ⟨.tuple #[], w', .val (.tup []), L, h', μ, ?_, g2, g3, .refl _, ⟨#[], rfl, rfl⟩⟩
   show Sem.run P (do pure (Next.value (<- Builtin.delete_ #[t, u] ty #[v, y]))) w = _
   rw [Sem.run_bind, g1]; rfl
  ·exact hk.elim
 ·rename_i t s
  obtain ⟨v, rfl, hs⟩ := kA hv
  split at hk
  ·exact hk.elim
  ·rename_i e he
   have hu := kW he
   have done : ∀ {w' : World} {h' : Heap}, (Builtin.clear_ #[t] ty #[v]).run P w = .ok (.tuple #[]) w' -> K (.val (.tup [])) L h' -> Rel μ0 h0 w0 μ lam L h' w' ->
     ∃ v1 w' lv L' h' μ', (builtin .clear #[t] ty cs #[v]).run P w = .ok (.value v1) w' /\ K lv L' h' /\ Rel μ0 h0 w0 μ' lam L' h' w' /\ Ren.le μ μ' /\ lv.rel μ' lam v1 := by
    intro w' h' g1 g2 g3
    refine ⟨.tuple #[], w', .val (.tup []), L, h', μ, ?_, g2, g3, .refl _, ⟨#[], rfl, rfl⟩⟩
    show Sem.run P (do pure (Next.value (<- Builtin.clear_ #[t] ty #[v]))) w = _
    rw [Sem.run_bind, g1]; rfl
   split at hk
   ·exact hk.elim
   rename_i zs hz
   cases s with
   | none =>
    obtain rfl : v = _ := hs
    exact done (by simp [Builtin.clear_, run_underlying hu]) hk R
   | some s =>
    obtain ⟨m, c', q, hm, rfl, hlc, hq, hx1, hx2⟩ := hs
    simp only [zK5] at hk
    split at hk
    ·rename_i hlen
     exact done (by simp [Builtin.clear_, run_underlying hu, hlen]) hk R
    ·rename_i n hlen
     obtain ⟨hone, hk⟩ := zG hk
     have hc0 : c' ≠ 0 := by
      have : s.cap <= c' := by
       by_cases ho : s.opn = 0
       ·rw [hx1 ho]; exact Nat.le_refl _
       ·exact (hx2 ho).1
      omega
     have hq' := hq.resolve_left hc0
     obtain ⟨zv, hzr, hzc, hzl⟩ := kV hz w μ
     have hz2 : (Builtin.zeroCells zv.cells (n + 1)).toList = (List.replicate (n + 1) zv.cells.toList).flatten := by
      unfold Builtin.zeroCells
      exact zBA _ _
     have hone' : zU (List.replicate (n + 1) zs).flatten = true := by
      simp only [zU, List.all_eq_true] at hone ⊢
      intro x hx
      obtain ⟨l, hl1, hl2⟩ := List.mem_flatten.1 hx
      rw [(List.mem_replicate.1 hl1).2] at hl2
      exact hone x hl2
     obtain ⟨w', h', g1, g2, g3⟩ := zCU (P := P) R (p := ⟨s.b, s.o⟩) (hm.resolve_right hc0) (relL.replicate hzc (n + 1)) hone' hk
     refine done ?_ g2 g3
     simp only [Builtin.clear_]
     simp [run_underlying hu, hlen]
     rw [hzr]
     simp only [Result.andThen_ok]
     rw [hz2, hq', g1]
     rfl
 ·rename_i t s
  obtain ⟨v, rfl, hs⟩ := kA hv
  split at hk
  ·rename_i e hu
   obtain rfl : v = _ := hs
   exact simple (v := .int .i64 0) (Builtin.cap_ #[t] ty #[_]) rfl (by simp [Builtin.cap_, run_underlying hu, goInt]) hk rfl
  ·rename_i e s hu
   obtain ⟨hop, hk⟩ := hk
   obtain ⟨m, c', q, hm, rfl, hlc, hq, hx1, hx2⟩ := hs
   have := hx1 hop
   subst this
   exact simple (v := .int .i64 s.cap) (Builtin.cap_ #[t] ty #[_]) rfl (by simp [Builtin.cap_, run_underlying hu, goInt]) hk rfl
  ·exact hk.elim
 ·rename_i t u s x
  obtain ⟨v, y, rfl, hs, hx⟩ := zCH hv
  split at hk
  ·exact hk.elim
  ·rename_i e he
   split at hk
   ·exact hk.elim
   ·rename_i zs hz
    have hu := kW he
    have hby := (zG hk).1
    replace hk := (zG hk).2
    simp at hby
    have fin : ∀ {n : Nat} {xs : List AV} {news : List Value}, (∀ i zv, P.info? e = some i -> i.zero = some zv -> App P t u ty e i zv y n news w) -> relL μ xs news -> zU xs = true ->
      (vD (tsz P e) (kU P e) s n xs h fun s' h' => K (.val (.sl s')) L h') ->
      ∃ v' w' lv L' h' μ', (builtin .append #[t, u] ty cs #[v, y]).run P w = .ok (.value v') w' /\ K lv L' h' /\ Rel μ0 h0 w0 μ' lam L' h' w' /\ Ren.le μ μ' /\ lv.rel μ' lam v' := by
     intro n xs news hA hr ho hkk
     obtain ⟨v', w', s', h', μ', g1, g2, g3, g4, g5⟩ := zLQ (P := P) (ty := ty) R he hz hA hr ho hs hby hkk
     refine ⟨v', w', .val (.sl s'), L, h', μ', ?_, g2, g3, g4, g5⟩
     show Sem.run P (do pure (Next.value (<- Builtin.append_ #[t, u] ty #[v, y]))) w = _
     rw [Sem.run_bind, g1]; rfl
    split at hk
    ·rename_i k n hint
     obtain ⟨ho, g1, g2, g3, hk⟩ := zG hk
     obtain rfl : y = _ := hx
     obtain ⟨nn, rfl⟩ := zGV g1
     obtain ⟨k', hu'⟩ := zJH hint
     obtain ⟨zv, hzr, hzc, hzl⟩ := kV hz w μ
     have hn2 : nn * kU P e <= 140737488355328 := by
      have : ((nn * kU P e : Nat) : Int) <= 140737488355328 := by rw [Int.natCast_mul]; exact g3
      omega
     have hone : zU (List.replicate nn zs).flatten = true := by
      simp only [zU, List.all_eq_true] at ho ⊢
      intro x hx
      simp at hx
      obtain ⟨_, ⟨_, rfl⟩, hx⟩ := hx
      exact ho x hx
     refine fin (n := nn) (news := (List.replicate nn zv.cells.toList).flatten) ?_ (relL.replicate hzc nn) hone (by simpa using hk)
     intro i zv' hi hzi
     have hzv : zv' = zv := by
      simp only [zeroValue, typeInfo, Sem.run_bind, run_program, Result.andThen_ok, hi, hzi, Sem.run_pure, Result.ok.injEq, and_true] at hzr
      exact hzr
     subst hzv
     have hby' : kU P e = i.bytes := by simp [kU, Program.bytesOf, hi]
     have hsz : zv'.cells.size = i.size := by have := hzc.length; simp at this; rw [this, hzl]; exact zBD hi
     have hzl' : (Builtin.zeroCells zv'.cells nn).toList = (List.replicate nn zv'.cells.toList).flatten := by
      unfold Builtin.zeroCells
      exact zBA _ _
     rw [hby'] at hn2
     refine ⟨fun hf hst => zGD hu hu' hi hzi (by omega) (by simp [maxI] at g2; omega) hf hsz (by rw [hzl']; exact hst), fun hg hb hm hold => ?_⟩
     have := zGC (P := P) (ty := ty) (k := k) hu hu' hi hzi (n := nn) (by omega) (by simp [maxI] at g2; omega) hg hb hm hsz hold
     rw [hzl'] at this
     exact this
    ·rename_i src hint
     obtain ⟨hte, xs, hxs, hk⟩ := zG hk
     obtain ⟨e', he'⟩ := Option.isSome_iff_exists.1 hte
     obtain ⟨news, S, hr, hone⟩ := zND R (kW he') hx hxs
     refine fin ?_ hr hone hk
     intro i zv hi hzi
     rw [zBD hi] at S
     exact App.of_src hu hi hzi S
    ·rename_i src hint
     obtain ⟨h1, hk⟩ := zG hk
     simp only [Bool.and_eq_true, beq_iff_eq] at h1
     obtain ⟨h1, h2⟩ := h1
     obtain rfl : y = _ := hx
     have hus := zJG h1
     refine fin (news := src.map fun b => Value.int .u8 b.toNat) ?_ (zAH src) (zDJ src) (by rw [h2]; exact hk)
     intro i zv hi hzi
     have S := zLC (P := P) (w := w) hus src
     rw [<- h2, zBD hi] at S
     exact App.of_src hu hi hzi S
    ·exact hk.elim
 ·rename_i t u s src
  obtain ⟨v, y, rfl, hs, hx⟩ := zCH hv
  split at hk
  ·exact hk.elim
  ·rename_i e he
   obtain ⟨h1, hk⟩ := zG hk
   obtain ⟨i, hi⟩ := Option.isSome_iff_exists.1 h1
   obtain ⟨n, w', h', g1, g2, g3⟩ := zQB (P := P) (u := u) (ty := ty) R he hs hx hi hk
   refine ⟨.int .i64 n, w', _, L, h', μ, ?_, g2, g3, .refl _, rfl⟩
   show Sem.run P (do pure (Next.value (<- Builtin.copy_ #[t, u] ty #[v, y]))) w = _
   rw [Sem.run_bind, g1]; rfl
 ·unfold minL at hk
  split at hk
  ·obtain ⟨v, rfl, hx⟩ := kA hv
   obtain rfl : v = _ := hx
   refine simple (Builtin.min_ argT.toArray ty #[_]) rfl ?_ hk rfl
   simp [Builtin.min_]
  ·rename_i k a k' b
   obtain ⟨h1, hk⟩ := zG hk
   obtain ⟨v, y, rfl, hx, hy⟩ := zCH hv
   obtain rfl : v = _ := hx
   obtain rfl : y = _ := hy
   refine simple (v := .int k (minI a b)) (Builtin.min_ argT.toArray ty #[_, _]) rfl ?_ hk rfl
   simp [Builtin.min_, Builtin.min2, minI]
  ·exact hk.elim
 ·unfold maxL at hk
  split at hk
  ·obtain ⟨v, rfl, hx⟩ := kA hv
   obtain rfl : v = _ := hx
   refine simple (Builtin.max_ argT.toArray ty #[_]) rfl ?_ hk rfl
   simp [Builtin.max_]
  ·rename_i k a k' b
   obtain ⟨h1, hk⟩ := zG hk
   obtain ⟨v, y, rfl, hx, hy⟩ := zCH hv
   obtain rfl : v = _ := hx
   obtain rfl : y = _ := hy
   refine simple (v := .int k (zLS a b)) (Builtin.max_ argT.toArray ty #[_, _]) rfl ?_ hk rfl
   simp [Builtin.max_, Builtin.max2, zLS]
  ·exact hk.elim
 ·exact hk.elim
end
theorem exT_ex : ∀ {zs : List AV} {KL : List AV -> Prop}, exT zs KL -> ∃ l, KL l
 | [], KL, h => ⟨[], h⟩
 | z :: zs, KL, h => by
  cases z <;> simp only [exT] at h
  all_goals
   obtain ⟨l, h1, _, _⟩ := zCP h
   obtain ⟨r, h2⟩ := exT_ex h1
   exact ⟨_, h2⟩
theorem exV_ex {z : AV} {KV : AV -> Prop} (h : exV z KV) : ∃ u, KV u := by
 by_cases hz : ∃ c, z = .tup c
 ·obtain ⟨c, rfl⟩ := hz
  obtain ⟨l, hl⟩ := exT_ex h
  exact ⟨_, hl⟩
 ·obtain ⟨u, hu, _⟩ := zGZ (fun c hc => hz ⟨c, hc⟩) h
  exact ⟨u, hu⟩
theorem jF : ∀ {zs : List AV} {A B : List AV -> Prop}, (∀ l, A l -> B l) -> exL zs A -> exL zs B
 | [], A, B, hm, h => hm _ h
 | z :: zs, A, B, hm, h => by
  cases z <;> simp only [exL] at h ⊢
  case int => obtain ⟨n, h⟩ := h; exact ⟨n, jF (fun l => hm _) h⟩
  case bool => obtain ⟨n, h⟩ := h; exact ⟨n, jF (fun l => hm _) h⟩
  case str => obtain ⟨n, h⟩ := h; exact ⟨n, jF (fun l => hm _) h⟩
  case ptr => obtain ⟨n, h⟩ := h; exact ⟨n, jF (fun l => hm _) h⟩
  case sl => obtain ⟨n, h⟩ := h; exact ⟨n, jF (fun l => hm _) h⟩
  case map => obtain ⟨n, h⟩ := h; exact ⟨n, jF (fun l => hm _) h⟩
  all_goals obtain ⟨n, h1, h⟩ := h; exact ⟨n, h1, jF (fun l => hm _) h⟩
theorem zKS : ∀ {zs : List AV} {A B : List AV -> Prop}, (∀ l, A l -> B l) -> exT zs A -> exT zs B
 | [], A, B, hm, h => hm _ h
 | z :: zs, A, B, hm, h => by
  cases z <;> simp only [exT] at h ⊢
  all_goals exact jF (fun l hl => zKS (fun r => hm _) hl) h
theorem zQS {z : AV} {A B : AV -> Prop} (hm : ∀ l, A l -> B l) (h : exV z A) : exV z B := by
 cases z <;> simp only [exV] at h ⊢
 case agg => exact jF (fun l => hm _) h
 case tup => exact zKS (fun l => hm _) h
 all_goals
  refine jF (fun l hl => ?_) h
  split at hl
  ·exact hm _ hl
  ·exact hl.elim
theorem zOS {z v : AV} {K : AV -> Prop} (h : exV z fun u => v = u /\ K u) : K v := by
 obtain ⟨u, rfl, hu⟩ := exV_ex h
 exact hu
theorem zLX {P : Program} {kt : TypeId} {a b : AV} {A B : Bool -> Prop} (hm : ∀ x, A x -> B x) (h : zCM P kt a b A) : zCM P kt a b B := by
 unfold zCM at h ⊢
 generalize P.underlying kt = d at h ⊢
 split at h
 ·obtain ⟨h1, h2⟩ := zG h
  simp only [h1, need]; exact hm _ h2
 ·exact hm _ h
 ·exact hm _ h
 ·split at h
  ·exact hm _ h
  ·exact h.elim
 ·split at h
  ·exact hm _ h
  ·exact h.elim
 ·exact h.elim
theorem zFR {P : Program} {kt : TypeId} {k : AV} : ∀ {es : List (AV × AV × Nat)} {i : Nat} {A B : Option (Nat × AV × Nat) -> Prop}, (∀ r, A r -> B r) -> vB P kt k es i A -> vB P kt k es i B
 | [], i, A, B, hm, h => hm _ h
 | (k', v, n) :: es, i, A, B, hm, h => by
  simp only [vB] at h ⊢
  refine zLX (fun b hb => ?_) h
  cases b
  ·exact zFR hm hb
  ·exact hm _ hb
theorem zIS {P : Program} {kt et : TypeId} {m : Option Nat} {k : AV} {ok : Bool} {h : Heap} {A B : AV -> Prop} (hm : ∀ v, A v -> B v) (hk : xP P kt et m k ok h A) : xP P kt et m k ok h B := by
 unfold xP at hk ⊢
 split at hk
 ·obtain ⟨h1, hk⟩ := zG hk
  simp only [h1, need]
  exact zFR (fun r => hm _) hk
 ·exact hk.elim
theorem zJU {b : Nat} {h : Heap} {A B : AV -> Prop} (hm : ∀ v, A v -> B v) (hk : zBS b h A) : zBS b h B := by
 unfold zBS at hk ⊢
 split at hk
 ·split at hk
  ·obtain ⟨h1, hk⟩ := zG hk
   simp only [h1, need]
   split at hk
   ·exact hm _ hk
   ·exact hk.elim
  ·exact hk.elim
 ·exact hk.elim
section
variable {P : Program} {μ0 : Ren} {h0 : Heap} {w0 : World} {μ : Ren} {lam : List Nat} {L : Locs} {h : Heap} {w : World} {K : KO}
abbrev zIT (μ0 : Ren) (h0 : Heap) (w0 : World) (μ : Ren) (lam : List Nat) (K : KO) (d : Option Tmp) (a : Act) (next : Act -> World -> Prop) : Prop :=
 ∀ (lv : LV) (L' : Locs) (h' : Heap) (μ' : Ren) (lam' : List Nat) (v : Value) (w' : World), K lv L' h' -> Rel μ0 h0 w0 μ' lam' L' h' w' -> Ren.le μ μ' -> xS lam lam' -> lv.rel μ' lam' v -> next (a.put d v) w'
theorem zX {o : Oper} {a : Act} {next : Act -> World -> Prop} {Q : Exit -> Act -> World -> Prop} {s : Sem Value} (H : Out P μ0 h0 w0 μ lam w s K) (he : execOp a.eval o = (do pure (.value (<- s)))) (hn : zIT μ0 h0 w0 μ lam K o.dst a next) :
  o.wp P a w next Q := by
 obtain ⟨v, w', lv, L', h', μ', lam', hr, hk, R', h1, h2, hv⟩ := H
 unfold Oper.wp
 rw [he, Sem.run_bind, hr]
 exact hn _ _ _ _ _ _ _ hk R' h1 h2 hv
theorem zE9 {o : Oper} {a : Act} {next : Act -> World -> Prop} {Q : Exit -> Act -> World -> Prop} (R : Rel μ0 h0 w0 μ lam L h w) {g : FuncId} {args : List AV} {vs : List Value} (hv : relL μ args vs) {z : AV}
  (H : AC P g args h fun v h' => exV z fun u => v = u /\ K (.val u) L h') (he : (execOp a.eval o).run P w = .ok (.enter g vs.toArray) w) (hn : zIT μ0 h0 w0 μ lam K o.dst a next) :
  o.wp P a w next Q := by
 unfold Oper.wp
 rw [he]
 refine (H.2 μ w vs R.heap hv).mono fun e w' ⟨v, x, h', μ', hx, hq, hev, hh, hr⟩ => ?_
 subst hx
 obtain ⟨u, rfl, hk⟩ := exV_ex hq
 exact hn _ _ _ _ _ _ _ hk (R.call hev hh) hev.le (xS.refl _) hr
theorem zLI {t : TypeId} {v : Value} {name : String} {g : FuncId} (hm : zGS P t name = some g) : ∀ n, (method (n + 1) t v name).run P w = .ok (g, v) w := by
 intro n
 simp only [zGS] at hm
 split at hm
 ·cases hm
 ·rename_i i hi
  split at hm
  ·rename_i m hf
   split at hm
   ·rename_i hp
    have hpath : m.path.toList = [] := by simpa using hp
    unfold method
    have hti : (typeInfo t).run P w = .ok i w := by simp [typeInfo, hi]
    rw [Sem.run_bind, hti]
    simp only [Result.andThen_ok, hf]
    rw [Sem.run_bind, hpath]
    simp only [follow, Sem.run_pure, Result.andThen_ok]
    split at hm
    ·rename_i g' e hfn hu
     cases hm
     simp only [hfn, Sem.run_bind]
     unfold receiverAt
     rw [Sem.run_bind, run_underlying hu]
     simp [Place.get]
    ·cases hm
    ·rename_i g' d hfn hu hne
     cases hm
     simp only [hu, Sem.run_bind]
     unfold receiverAt
     rw [Sem.run_bind, run_underlying hne]
     simp [Place.get]
    ·cases hm
   ·cases hm
  ·cases hm
theorem zHI {t e : TypeId} {r : Addr} {name : String} {g : FuncId} (hm : zGT P t name = some (g, e)) {v : Value} (hl : (loadVar e r).run P w = .ok v w) : ∀ n, (method (n + 1) t (.pointer (some r)) name).run P w = .ok (g, v) w := by
 intro n
 simp only [zGT] at hm
 split at hm
 ·cases hm
 ·rename_i i hi
  split at hm
  ·rename_i m hf
   split at hm
   ·rename_i hp
    have hpath : m.path.toList = [] := by simpa using hp
    unfold method
    have hti : (typeInfo t).run P w = .ok i w := by simp [typeInfo, hi]
    rw [Sem.run_bind, hti]
    simp only [Result.andThen_ok, hf]
    rw [Sem.run_bind, hpath]
    simp only [follow, Sem.run_pure, Result.andThen_ok]
    split at hm
    ·rename_i g' e' hfn hu
     cases hm
     simp only [hfn, Sem.run_bind]
     unfold receiverAt
     rw [Sem.run_bind, run_underlying hu]
     simp only [Result.andThen_ok, Place.get, hp, if_true]
     have : ∀ s, (Builtin.ssaWrapNilChk_ #[t] t #[.pointer (some r), strVal "", strVal s]).run P w = .ok (.pointer (some r)) w := by
      intro s
      rfl
     have hadr : (asAddr (.pointer (some r))).run P w = .ok r w := rfl
     simp [this, hadr, hl]
    ·cases hm
   ·cases hm
  ·cases hm
theorem zG3 {o : Oper} {a : Act} {next : Act -> World -> Prop} {Q : Exit -> Act -> World -> Prop} (R : Rel μ0 h0 w0 μ lam L h w) {g : AV} {vg : Value} (hgv : g.rel μ vg) {args : List AV} {vs : List Value} (hvs : relL μ args vs) {name : String} {z : AV}
  (hk : zF6 P (AC P) g name args h fun v h' => exV z fun u => v = u /\ K (.val u) L h')
  (he : (execOp a.eval o).run P w = (callMethod vg name vs.toArray).run P w) (hn : zIT μ0 h0 w0 μ lam K o.dst a next) : o.wp P a w next Q := by
 unfold zF6 at hk
 split at hk
 ·rename_i t v
  have fin : ∀ {g' : FuncId} {x : AV} {y0 y : Value}, vg = .iface t y0 -> x.rel μ y -> AC P g' (x :: args) h (fun v h' => exV z fun u => v = u /\ K (.val u) L h') -> (∀ n, (method (n + 1) t y0 name).run P w = .ok (g', y) w) -> o.wp P a w next Q := by
   intro g' x y0 y hv hy hk hmeth
   refine zE9 (vs := y :: vs) R (show relL μ (x :: args) _ from ⟨_, _, rfl, hy, hvs⟩) hk ?_ hn
   rw [he, hv]
   unfold callMethod
   rw [Sem.run_bind, run_program]
   simp only [Result.andThen_ok]
   have hmm := hmeth (P.types.size + 99)
   rw [Sem.run_bind, show P.types.size + Made.depth = P.types.size + 99 + 1 from rfl, hmm]
   simp only [Result.andThen_ok]
   rw [zDF hk.1]
   have : #[y] ++ vs.toArray = (y :: vs).toArray := by apply Array.ext'; simp
   rw [this]
  obtain ⟨y, hv, hy⟩ := hgv
  split at hk
  ·rename_i g' hm
   exact fin hv hy hk fun n => zLI hm n
  ·rename_i hm
   split at hk
   ·rename_i g' e p hma
    split at hk
    ·rename_i z' hz'
     split at hk
     ·rename_i hok
      obtain ⟨e', he', rfl⟩ := hy
      obtain ⟨c1, rw1, hc1, hpart⟩ := zDB (jA hok).2.2.2 hk
      obtain ⟨C, t', fz, q1, q2, q3, q4, q5, q6⟩ := R.heap.blk _ _ _ hc1 he'
      obtain ⟨i, zv, hi, _, _⟩ := zAU hz'
      obtain ⟨v', x, l1, l2, l3⟩ := zAZ (P := P) q1 q5 hz' hok hpart
      exact fin hv l3 l2 fun n => zHI hma l1 n
     ·exact hk.elim
    ·exact hk.elim
   ·exact hk.elim
 ·exact hk.elim
theorem vop_wp {isLoc : Nat -> Bool} {o : Oper} {ρ : List LV} {a : Act} {next : Act -> World -> Prop} {Q : Exit -> Act -> World -> Prop} (R : Rel μ0 h0 w0 μ lam L h w) (E : yG μ lam ρ a.tmps)
  (hk : vop P isLoc (AC P) o ρ L h K) (hn : zIT μ0 h0 w0 μ lam K o.dst a next) : o.wp P a w next Q := by
 have ex : ∀ op, o.op = op -> execOp a.eval o = execOp a.eval { o with op := op } := by intro op h; subst h; rfl
 unfold vop at hk
 split at hk
 ·rename_i x ho
  unfold Oper.wp
  rw [ex _ ho]
  exact hn _ _ _ _ _ _ _ hk R (.refl _) (xS.refl _) (E.ev x)
 ·rename_i x ho
  unfold Oper.wp
  rw [ex _ ho]
  exact hn _ _ _ _ _ _ _ hk R (.refl _) (xS.refl _) (E.ev x)
 ·rename_i c x y ho
  split at hk
  ·rename_i t hc
   have hcv : a.eval c = _ := E.val hc
   unfold Oper.wp
   rw [ex _ ho]
   rcases vE hk with ⟨rfl, hk⟩ | ⟨rfl, hk⟩
   ·have : (execOp a.eval { o with op := .pick c x y }).run P w = .ok (.value (a.eval x)) w := by simp [execOp, hcv, asBool]
    rw [this]
    exact hn _ _ _ _ _ _ _ hk R (.refl _) (xS.refl _) (E.ev x)
   ·have : (execOp a.eval { o with op := .pick c x y }).run P w = .ok (.value (a.eval y)) w := by simp [execOp, hcv, asBool]
    rw [this]
    exact hn _ _ _ _ _ _ _ hk R (.refl _) (xS.refl _) (E.ev y)
  ·exact hk.elim
 ·rename_i t ho
  split at hk
  ·rename_i zs d hz hd
   exact zX (zN0 R hz hk) (ex _ ho) hn
  ·exact hk.elim
 ·rename_i t x ho
  split at hk
  ·exact hk.elim
  ·rename_i v d hne hx hd
   exact zX (out_box R (E.val hx) (fun c hc => hne c (by rw [hc])) hk) (ex _ ho) hn
  ·exact hk.elim
 ·rename_i t x ho
  exact zX (zQA R E hk) (ex _ ho) hn
 ·rename_i t xa x ho
  split at hk
  ·rename_i v hx
   obtain ⟨h1, hk⟩ := zG hk
   obtain ⟨w', L', h', g1, g2, g3⟩ := zNS R E hx h1 hk
   unfold Oper.wp
   rw [ex _ ho]
   have : (execOp a.eval { o with op := .store t xa x }).run P w = .ok .skip w' := by
    show Sem.run P (do Instr.storeAt t (a.eval xa) (a.eval x); pure Next.skip) w = _
    rw [Sem.run_bind, g1]; rfl
   rw [this]
   exact hn _ _ _ _ _ _ _ g2 g3 (.refl _) (xS.refl _) trivial
  ·exact hk.elim
 ·rename_i x ho
  obtain ⟨lv, g1, g2, g3⟩ := zHX R E hk o ho
  unfold Oper.wp
  rw [g1]
  exact hn _ _ _ _ _ _ _ g2 R (.refl _) (xS.refl _) g3
 ·rename_i op t x y yt ho
  split at hk
  ·rename_i xv yv hx hy
   exact zX (out_bin R (E.val hx) (E.val hy) hk) (ex _ ho) hn
  ·exact hk.elim
 ·rename_i op t x ho
  split at hk
  ·rename_i xv hx
   exact zX (out_un R (E.val hx) hk) (ex _ ho) hn
  ·exact hk.elim
 ·rename_i src dst x ho
  split at hk
  ·rename_i sd k k' n hs hd hx
   have hv : a.eval x = _ := E.val hx
   refine zX (s := convert src dst (a.eval x)) (Out.same R (v := .int k (zE k n)) ?_ hk rfl) (ex _ ho) hn
   rw [hv]
   unfold convert
   rw [Sem.run_bind, run_underlying hs]
   simp only [Result.andThen_ok]
   rw [Sem.run_bind, run_underlying hd]
   simp [Conv.intToInt, zE]
  ·rename_i s hs hd hx
   have hv : a.eval x = _ := E.val hx
   refine zX (s := convert src dst (a.eval x)) (Out.same R (v := .string ⟨s.toArray⟩) ?_ hk rfl) (ex _ ho) hn
   rw [hv]
   unfold convert
   rw [Sem.run_bind, run_underlying hs]
   simp only [Result.andThen_ok]
   rw [Sem.run_bind, run_underlying hd]
   rfl
  ·rename_i e s hs hd hx
   obtain ⟨he, hk⟩ := zG hk
   exact zX (zC3 R hs hd he (E.val hx) hk) (ex _ ho) hn
  ·rename_i e s hs hd hx
   obtain ⟨he, hle, hk⟩ := zG hk
   have hv : a.eval x = _ := E.val hx
   exact zX (s := convert src dst (a.eval x)) (by rw [hv]; exact zC1 R hs hd he hle hk) (ex _ ho) hn
  ·exact hk.elim
 ·rename_i s x f ho
  exact zX (zGO R E hk) (ex _ ho) hn
 ·rename_i s x f ho
  exact zX (zNX R E hk) (ex _ ho) hn
 ·rename_i t x ix ho
  exact zX (zGN R E hk) (ex _ ho) hn
 ·rename_i t x ix ho
  exact zX (zNW R E hk) (ex _ ho) hn
 ·rename_i t ps ho
  exact zX (zNZ R E hk) (ex _ ho) hn
 ·rename_i t n ps ho
  exact zX (zE3 R E hk) (ex _ ho) hn
 ·rename_i t x lo hi mx ho
  exact zX (zNT R E hk) (ex _ ho) hn
 ·rename_i t l c ho
  split at hk
  ·exact hk.elim
  ·rename_i e he
   split at hk
   ·rename_i zs n m hz hl hc
    obtain ⟨h1, hk⟩ := zG hk
    obtain ⟨kl, hl'⟩ := E.int hl
    obtain ⟨kc, hc'⟩ := E.int hc
    exact zX (s := Instr.makeSlice t (a.eval l) (a.eval c)) (by rw [hl', hc']; exact zP9 R he hz h1 hk) (ex _ ho) hn
   ·exact hk.elim
 ·rename_i t x ho
  split at hk
  ·rename_i n e s0 hu hx
   unfold vSl at hk
   split at hk
   rotate_left
   ·exact hk.elim
   rename_i s
   obtain ⟨h1, hk⟩ := zG hk
   simp only [Bool.and_eq_true, decide_eq_true_eq] at h1
   obtain ⟨m, c', q, hm, hv, hlc, hq, hx1, hx2⟩ := E.val hx
   have hc0 : c' ≠ 0 := by
    have : s.cap <= c' := by
     by_cases ho : s.opn = 0
     ·rw [hx1 ho]; exact Nat.le_refl _
     ·exact (hx2 ho).1
    omega
   have hq' := hq.resolve_left hc0
   refine zX (s := Instr.arrayAt t (a.eval x)) (Out.same R (v := .pointer (some ⟨m.r, m.s + s.o, none⟩)) ?_ hk ⟨m, hm.resolve_right hc0, rfl⟩) (ex _ ho) hn
   rw [hv, hq']
   have hnot : ¬ s.len < n := by omega
   simp [Instr.arrayAt, run_underlying hu, hnot]
  ·exact hk.elim
 ·rename_i t r ho
  split at hk
  ·exact zX (s := Instr.makeMap t none) (zI7 R hk) (ex _ ho) hn
  ·exact hk.elim
 ·rename_i t x ix ok ho
  split at hk
  ·rename_i kt et m k z hu hx hix hz
   exact zX (zLO R hu (E.val hx) (E.val hix) (zIS (fun v hv => zOS hv) hk)) (ex _ ho) hn
  ·exact hk.elim
 ·rename_i t m k x ho
  split at hk
  ·rename_i kt et m' kk v hu hm hkk hx
   unfold vMap at hk
   split at hk
   rotate_left
   ·exact hk.elim
   rename_i b
   obtain ⟨w', h', g1, g2, g3⟩ := zFI R hu (E.val hm) (E.val hkk) (E.val hx) hk
   unfold Oper.wp
   rw [ex _ ho]
   have : (execOp a.eval { o with op := .mapUpdate t m k x }).run P w = .ok .skip w' := by
    show Sem.run P (do Instr.mapUpdate t (a.eval m) (a.eval k) (a.eval x); pure Next.skip) w = _
    rw [Sem.run_bind, g1]; rfl
   rw [this]
   exact hn _ _ _ _ _ _ _ g2 g3 (.refl _) (xS.refl _) trivial
  ·exact hk.elim
 ·rename_i t m k x ho
  split at hk
  ·rename_i kt et m' kk v hu hm hkk hx
   unfold vMap at hk
   split at hk
   rotate_left
   ·exact hk.elim
   rename_i b
   obtain ⟨w', h', g1, g2, g3⟩ := zFI R hu (E.val hm) (E.val hkk) (E.val hx) hk
   unfold Oper.wp
   rw [ex _ ho]
   have : (execOp a.eval { o with op := .insert t m k x }).run P w = .ok .skip w' := by
    show Sem.run P (do Instr.mapUpdate t (a.eval m) (a.eval k) (a.eval x); pure Next.skip) w = _
    rw [Sem.run_bind, g1]; rfl
   rw [this]
   exact hn _ _ _ _ _ _ _ g2 g3 (.refl _) (xS.refl _) trivial
  ·exact hk.elim
 ·rename_i t x ho
  split at hk
  ·rename_i kt et m hu hx
   exact zX (zNU R hu (E.val hx) (m := m) hk) (ex _ ho) hn
  ·exact hk.elim
 ·rename_i x isS ho
  split at hk
  ·rename_i p hx
   obtain ⟨h1, hk⟩ := zG hk
   have h1' : p.o = 0 := of_decide_eq_true h1
   have hp : p = ⟨p.b, 0⟩ := by cases p; simp_all
   have hv := E.val hx
   rw [hp] at hv
   have hk : PNext p.b h fun v h' => K (.val v) L h' := hk
   exact zX (zP8 (ty := o.type) R hv hk) (ex _ ho) hn
  ·exact hk.elim
 ·rename_i x ho
  split at hk
  ·rename_i p z hx hz
   obtain ⟨h1, hk⟩ := zG hk
   have h1' : p.o = 0 := of_decide_eq_true h1
   have hp : p = ⟨p.b, 0⟩ := by cases p; simp_all
   have hv := E.val hx
   rw [hp] at hv
   exact zX (zHZ R hv (zJU (fun v hv => zOS hv) hk)) (ex _ ho) hn
  ·rename_i p hx hz
   obtain ⟨h1, hk⟩ := zG hk
   have h1' : p.o = 0 := of_decide_eq_true h1
   have hp : p = ⟨p.b, 0⟩ := by cases p; simp_all
   have hv := E.val hx
   rw [hp] at hv
   exact zX (zHZ R hv hk) (ex _ ho) hn
  ·exact hk.elim
 ·rename_i x i ho
  exact zX (zI8 R E hk) (ex _ ho) hn
 ·rename_i fn f c ho
  exact zX (zHY R E hk) (ex _ ho) hn
 ·rename_i t x ho
  exact zX (zC2 R E hk) (ex _ ho) hn
 ·rename_i c ho
  split at hk
  ·exact hk.elim
  ·rename_i args hargs
   have hvs := E.vals _ _ hargs
   split at hk
   ·rename_i f hcal
    split at hk
    ·rename_i g z hg hz
     have hgv := E.val hg
     unfold zJY at hk
     split at hk
     ·rename_i name r cap
      obtain ⟨f', c', hv, hf, hc⟩ := hgv
      obtain ⟨y, hf1, hy⟩ := kA hf
      have hfe : f' = #[y] := by apply Array.ext'; simpa using hf1
      subst hfe
      refine zG3 R hy hvs hk ?_ hn
      rw [ex _ ho]
      show Sem.run P (do let d <- resolve a.eval c o.type; invoke d.target d.args) w = _
      have : (resolve a.eval c o.type).run P w = .ok { target := .fn (.method name) c', args := #[y] ++ c.args.map a.eval } w := by
       unfold resolve
       simp [hcal, Deferred.ofValue, hv]
      rw [Sem.run_bind, this]
      have hargs' : #[y] ++ c.args.map a.eval = (y :: c.args.toList.map a.eval).toArray := by apply Array.ext'; simp
      simp only [Result.andThen_ok, invoke, hargs']
      have h1' : (y :: c.args.toList.map a.eval).toArray.extract 1 (y :: c.args.toList.map a.eval).toArray.size = (c.args.toList.map a.eval).toArray := by
       apply Array.ext'
       simp only [Array.toList_extract, List.extract_eq_drop_take']
       rw [List.take_of_length_le (by simp)]
       rfl
      show Sem.run P (callMethod y name ((y :: c.args.toList.map a.eval).toArray.extract 1 (y :: c.args.toList.map a.eval).toArray.size)) w = _
      rw [h1']
     unfold vCallV at hk
     split at hk
     ·rename_i g' first cap hne
      obtain ⟨f', c', hv, hf, hc⟩ := hgv
      refine zE9 (vs := f'.toList ++ c.args.toList.map a.eval ++ c'.toList) R ((hf.append hvs).append hc) hk ?_ hn
      rw [ex _ ho]
      show Sem.run P (do let d <- resolve a.eval c o.type; invoke d.target d.args) w = _
      have : (resolve a.eval c o.type).run P w = .ok { target := .fn (.func g') c', args := f' ++ c.args.map a.eval } w := by
       unfold resolve
       simp [hcal, Deferred.ofValue, hv]
      rw [Sem.run_bind, this]
      simp only [Result.andThen_ok, invoke]
      rw [zDF hk.1]
      congr 2
      apply Array.ext'
      simp
     ·exact hk.elim
    ·exact hk.elim
   ·rename_i r name hcal
    split at hk
    ·rename_i g z hg hz
     have hgv := E.val hg
     refine zG3 R hgv hvs hk ?_ hn
     rw [ex _ ho]
     show Sem.run P (do let d <- resolve a.eval c o.type; invoke d.target d.args) w = _
     have : (resolve a.eval c o.type).run P w = .ok { target := .fn (.method name) #[], args := #[a.eval r] ++ c.args.map a.eval } w := by
      unfold resolve
      simp [hcal]
     rw [Sem.run_bind, this]
     have hargs' : #[a.eval r] ++ c.args.map a.eval = (a.eval r :: c.args.toList.map a.eval).toArray := by apply Array.ext'; simp
     simp only [Result.andThen_ok, invoke, hargs']
     have h1' : (a.eval r :: c.args.toList.map a.eval).toArray.extract 1 (a.eval r :: c.args.toList.map a.eval).toArray.size = (c.args.toList.map a.eval).toArray := by
      apply Array.ext'
      simp only [Array.toList_extract, List.extract_eq_drop_take']
      rw [List.take_of_length_le (by simp)]
      rfl
     show Sem.run P (callMethod (a.eval r) name ((a.eval r :: c.args.toList.map a.eval).toArray.extract 1 (a.eval r :: c.args.toList.map a.eval).toArray.size)) w = _
     rw [h1']
    ·exact hk.elim
   ·rename_i b hcal
    obtain ⟨v, w', lv, L', h', μ', g1, g2, g3, g4, g5⟩ := zI9 (ty := o.type) R hvs hk (c.args.map fun | .const _ => true | _ => false)
    unfold Oper.wp
    rw [ex _ ho]
    have : (execOp a.eval { o with op := .call c }).run P w = .ok (.value v) w' := by
     show Sem.run P (do let d <- resolve a.eval c o.type; invoke d.target d.args) w = _
     have : (resolve a.eval c o.type).run P w = .ok { target := .builtin b c.argTypes o.type (c.args.map fun | .const _ => true | _ => false), args := c.args.map a.eval } w := by
      unfold resolve
      simp [hcal]
      intro x _
      cases x <;> rfl
     rw [Sem.run_bind, this]
     simp only [Result.andThen_ok, invoke]
     have e1 : (c.args.map a.eval) = (c.args.toList.map a.eval).toArray := by apply Array.ext'; simp
     rw [e1]
     have e2 : (c.args.map fun | .const _ => true | _ => false) = (c.args.map fun | .const _ => true | _ => false) := rfl
     refine Eq.trans ?_ g1
     congr 1
    rw [this]
    exact hn _ _ _ _ _ _ _ g2 g3 g4 (xS.refl _) g5
 ·exact hk.elim
end
end Go.Ab
