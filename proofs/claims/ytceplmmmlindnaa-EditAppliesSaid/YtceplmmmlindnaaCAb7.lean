/- The runs of the operations, second part: parts of values, arithmetic, slices. -/
import Derived.Test.YtceplmmmlindnaaCAb6
import Derived.Laws.Strings
import Derived.Laws.StructEq
import Derived.LaidEql
namespace Go.Ab
set_option linter.unusedSimpArgs false
set_option linter.unusedVariables false

section
variable {P : Program} {μ0 : Ren} {h0 : Heap} {w0 : World} {μ : Ren} {lam : List Nat} {L : Locs} {h : Heap} {w : World} {K : KO}

theorem run_part {μ : Ren} {ty : TypeId} {z : AV} (hok : okTy P ty z = true) {cs : List AV} {C : Array Value} (hc : relL μ cs C.toList) {o : Nat} {KV : AV → Prop} (hi : ∃ i, P.info? ty = some i) (hp : part z cs o KV) :
    ∃ v x, (Go.part ty C o).run P w = .ok v w ∧ KV x ∧ x.rel μ v := by
  obtain ⟨h1, h2, ⟨d, hd⟩, _⟩ := okTy_parts hok
  obtain ⟨i, hi⟩ := hi
  have hag := run_isAgg (w := w) hd
  have hl := hc.length
  unfold Ab.part at hp
  cases hg : isAgg z with
  | true =>
    rw [hg] at hp h2
    obtain ⟨hle, hp⟩ := need_elim hp
    simp at hle
    refine ⟨.agg (C.extract o (o + tsz P ty)), _, ?_, hp, _, rfl, ?_⟩
    · unfold Go.part
      rw [Sem.run_bind, hag, ← h2]
      simp [run_sizeOf' hi]
    · have := (hc.drop o).take (tsz P ty)
      rw [h1]
      simpa [Array.toList_extract, List.extract_eq_drop_take'] using this
  | false =>
    rw [hg] at hp h2
    simp only at hp
    split at hp
    · rename_i v hv
      obtain ⟨y, hy, hxy⟩ := hc.get hv
      refine ⟨y, v, ?_, hp, hxy⟩
      unfold Go.part
      rw [Sem.run_bind, hag, ← h2]
      have : C[o]? = some y := by simpa using hy
      simp [this]
    · exact hp.elim

theorem out_field (R : Rel μ0 h0 w0 μ lam L h w) {ρ : List LV} {a : Act} (E : EnvRel μ lam ρ a.tmps) {s : TypeId} {x : Operand} {f : Nat}
    (hk : match fieldOff P s f, ev ρ x with
    | some (off, ft), .val (.agg cs) =>
      match tz P ft with
      | some z => need (okTy P ft z) (Ab.part z cs off fun v => K (.val v) L h)
      | none => False
    | _, _ => False) :
    Out P μ0 h0 w0 μ lam w (Instr.field s (a.eval x) f) K := by
  split at hk
  · rename_i off ft cs hf hx
    obtain ⟨C, hv, hc⟩ := E.val hx
    split at hk
    · rename_i z hz
      obtain ⟨hok, hk⟩ := need_elim hk
      obtain ⟨i, _, hi, _⟩ := tz_info hz
      obtain ⟨v, x', g1, g2, g3⟩ := run_part (w := w) hok hc ⟨i, hi⟩ hk
      refine Out.same R ?_ g2 g3
      simp only [fieldOff] at hf
      split at hf
      · rename_i fs hfs
        simp only [Option.map_eq_some_iff] at hf
        obtain ⟨fd, hfd, heq⟩ := hf
        simp only [Prod.mk.injEq] at heq
        obtain ⟨rfl, rfl⟩ := heq
        unfold Instr.field
        rw [Sem.run_bind, run_underlying hfs]
        simp only [Result.andThen_ok, hfd, hv, asAgg, Sem.run_bind, Sem.run_pure]
        exact g1
      · cases hf
    · exact hk.elim
  · exact hk.elim

theorem out_extract (R : Rel μ0 h0 w0 μ lam L h w) {ρ : List LV} {a : Act} (E : EnvRel μ lam ρ a.tmps) {x : Operand} {i : Nat}
    (hk : match ev ρ x with | .val (.tup vs) => (match vs[i]? with | some v => K (.val v) L h | none => False) | _ => False) :
    Out P μ0 h0 w0 μ lam w (Instr.extract (a.eval x) i) K := by
  split at hk
  · rename_i vs hx
    obtain ⟨C, hv, hc⟩ := E.val hx
    split at hk
    · rename_i v hv'
      obtain ⟨y, hy, hxy⟩ := hc.get hv'
      refine Out.same R ?_ hk hxy
      have : C[i]? = some y := by simpa using hy
      rw [hv]; simp [Instr.extract, this]
    · exact hk.elim
  · exact hk.elim

theorem out_index (R : Rel μ0 h0 w0 μ lam L h w) {ρ : List LV} {a : Act} (E : EnvRel μ lam ρ a.tmps) {t : TypeId} {x ix : Operand}
    (hk : match evI ρ ix, P.underlying t, ev ρ x with
    | some i, some .string, .val (.str s) => strIdx s i fun v => K (.val v) L h
    | _, _, _ => False) :
    Out P μ0 h0 w0 μ lam w (Instr.index t (a.eval x) (a.eval ix)) K := by
  split at hk
  · rename_i i s hi ht hx
    obtain ⟨k, hk'⟩ := E.int hi
    have hv : a.eval x = _ := E.val hx
    obtain ⟨h0i, hk⟩ := hk
    split at hk
    · rename_i b hb
      have hb : (s[i.toNat]? : Option UInt8) = some b := hb
      refine Out.same R (v := .int .u8 b.toNat) ?_ hk rfl
      rw [hk', hv]
      unfold Instr.index
      simp only [asIntOf, Sem.run_bind, Sem.run_pure, Result.andThen_ok, run_underlying ht]
      have : (ByteArray.mk s.toArray)[i.toNat]? = some b := by
        have hlt := lt_of_get hb
        have : i.toNat < (ByteArray.mk s.toArray).size := by simpa [ByteArray.size] using hlt
        rw [getElem?_pos (ByteArray.mk s.toArray) i.toNat this]
        congr 1
        show s.toArray[i.toNat] = b
        simp only [List.getElem_toArray]
        rw [List.getElem?_eq_getElem hlt] at hb
        exact Option.some.inj hb
      simp [h0i, this]
    · exact hk.elim
  · exact hk.elim

theorem toList_mk (s : List UInt8) : (ByteArray.mk s.toArray).toList = s := by rw [ByteArray.toList_eq]

theorem out_int (R : Rel μ0 h0 w0 μ lam L h w) {op : BinOp} {k : IntKind} {x y : Int} {KV : AV → Prop} (hk : aInt op k x y KV) (hs1 : op ≠ .shl) (hs2 : op ≠ .shr) {t : TypeId} :
    ∃ v x', (binOp op t (.int k x) (.int k y)).run P w = .ok v w ∧ KV x' ∧ x'.rel μ v := by
  cases op <;> simp only [aInt] at hk <;> first
    | exact absurd rfl hs1
    | exact absurd rfl hs2
    | exact hk.elim
    | (refine ⟨_, _, ?_, hk, rfl⟩; simp [binOp, Op.intArith, Op.intBits, Op.intCmp, wrapK, bitsAnd, bitsOr, bitsXor, bitsAndNot]; done)
    | (obtain ⟨h1, hk⟩ := need_elim hk; refine ⟨_, _, ?_, hk, rfl⟩; simp at h1; simp [binOp, Op.intDiv, h1, wrapK])

theorem out_str (R : Rel μ0 h0 w0 μ lam L h w) {op : BinOp} {x y : List UInt8} {KV : AV → Prop} (hk : aStr op x y KV) {t : TypeId} :
    ∃ v x', (binOp op t (.string ⟨x.toArray⟩) (.string ⟨y.toArray⟩)).run P w = .ok v w ∧ KV x' ∧ x'.rel μ v := by
  cases op <;> simp only [aStr] at hk <;> first
    | exact hk.elim
    | (refine ⟨_, _, ?_, hk, rfl⟩; simp [binOp, Op.stringOp, toList_mk, bytesLess]; done)
    | skip
  obtain ⟨h1, hk⟩ := need_elim hk
  simp at h1
  refine ⟨.string (⟨x.toArray⟩ ++ ⟨y.toArray⟩), _, ?_, hk, ?_⟩
  · simp only [binOp, Op.stringOp]
    rw [if_neg (by simp [ByteArray.size, IntKind.max, IntKind.signed, IntKind.bits]; omega)]
    rfl
  · show Value.string _ = Value.string _
    congr 1

/-- Cells that a value of a type has. -/
def TyVal (P : Program) (μ : Ren) (t : TypeId) (xs : List AV) (v : Value) : Prop :=
  (tagg P t = true ∧ ∃ A, v = .agg A ∧ relL μ (xs.take (tsz P t)) A.toList) ∨ (tagg P t = false ∧ ∃ x, xs[0]? = some x ∧ x.rel μ v)

theorem string_beq (a b : List UInt8) : ((⟨a.toArray⟩ : ByteArray) == ⟨b.toArray⟩) = (a == b) := by
  rw [beq_toListBytes, toList_mk, toList_mk]

theorem eqFs_run {n d : Nat} (ih : ∀ (t : TypeId) (xs ys : List AV) (KB : Bool → List AV → List AV → Prop) (vx vy : Value),
      eqT P n t xs ys KB → TyVal P μ t xs vx → TyVal P μ t ys vy → ∃ b, (Op.equalIn d t vx vy).run P w = .ok b w ∧ KB b (xs.drop (tsz P t)) (ys.drop (tsz P t)))
    {X Y : List AV} {A B : Array Value} (hA : relL μ X A.toList) (hB : relL μ Y B.toList) :
    ∀ (fs : List Field) (off : Nat) (KB : Bool → List AV → List AV → Prop), eqFs P (eqT P n) fs off (X.drop off) (Y.drop off) KB →
      ∃ b off', (Op.eqFields d A B fs).run P w = .ok b w ∧ KB b (X.drop off') (Y.drop off')
  | [], off, KB, hk => ⟨true, off, by simp [Op.eqFields], hk⟩
  | f :: fs, off, KB, hk => by
    simp only [eqFs] at hk
    obtain ⟨h1, hk⟩ := need_elim hk
    simp [Option.isSome_iff_exists] at h1
    obtain ⟨⟨⟨⟨⟨⟨h1, h2⟩, h0⟩, h3⟩, h4⟩, ⟨i, hi⟩⟩, ⟨dd, hd⟩⟩ := h1
    have mk : ∀ {Z : List AV} {C : Array Value}, relL μ Z C.toList → tsz P f.type ≤ Z.length - off → ∃ v, (Go.part f.type C f.offset).run P w = .ok v w ∧ TyVal P μ f.type (Z.drop off) v := by
      intro Z C hC hle
      have hl := hC.length
      unfold Go.part
      rw [Sem.run_bind, run_isAgg hd]
      simp only [Result.andThen_ok]
      cases hg : tagg P f.type with
      | true =>
        refine ⟨.agg (C.extract off (off + tsz P f.type)), by simp [run_sizeOf' hi, h1], .inl ⟨hg, _, rfl, ?_⟩⟩
        have := (hC.drop off).take (tsz P f.type)
        simpa [Array.toList_extract, List.extract_eq_drop_take'] using this
      | false =>
        have hlt : off < Z.length := by omega
        obtain ⟨x, hx⟩ : ∃ x, Z[off]? = some x := ⟨Z[off], by simp [hlt]⟩
        obtain ⟨y, hy, hxy⟩ := hC.get hx
        have hy' : C[f.offset]? = some y := by rw [h1]; simpa using hy
        exact ⟨y, by simp [hy'], .inr ⟨hg, x, by simpa using hx, hxy⟩⟩
    obtain ⟨va, g1, g2⟩ := mk hA (by simpa using h3)
    obtain ⟨vb, g3, g4⟩ := mk hB (by simpa using h4)
    obtain ⟨b, g5, g6⟩ := ih _ _ _ _ va vb hk g2 g4
    rw [List.drop_drop, List.drop_drop] at g6
    obtain ⟨r, off', g7, g8⟩ := eqFs_run ih hA hB fs _ _ g6
    refine ⟨b && r, off', ?_, g8⟩
    simp only [Op.eqFields]
    rw [if_pos (by simpa using h2)]
    simp only [Sem.run_bind, g1, g3, g5, Result.andThen_ok]
    cases b
    · simp
    · simpa using g7

theorem eqT_run : ∀ (n : Nat) (t : TypeId) (xs ys : List AV) (KB : Bool → List AV → List AV → Prop) (d : Nat) (vx vy : Value),
    eqT P n t xs ys KB → n ≤ d → TyVal P μ t xs vx → TyVal P μ t ys vy →
    ∃ b, (Op.equalIn d t vx vy).run P w = .ok b w ∧ KB b (xs.drop (tsz P t)) (ys.drop (tsz P t))
  | 0, _, _, _, _, _, _, _, hk, _, _, _ => hk.elim
  | n + 1, t, xs, ys, KB, 0, vx, vy, hk, hd, _, _ => by omega
  | n + 1, t, xs, ys, KB, d + 1, vx, vy, hk, hd, hx, hy => by
    unfold eqT at hk
    split at hk
    · rename_i kk k a xs k' b ys hu
      have hag : tagg P t = false := by simp [tagg, hu]
      rcases hx with ⟨hx, _⟩ | ⟨_, x, hx1, hx2⟩
      · rw [hag] at hx; cases hx
      rcases hy with ⟨hy, _⟩ | ⟨_, y, hy1, hy2⟩
      · rw [hag] at hy; cases hy
      simp at hx1 hy1; subst hx1; subst hy1
      obtain ⟨h1, hk2⟩ := need_elim hk
      simp at h1
      obtain ⟨rfl, h1⟩ := h1
      refine ⟨_, ?_, by rw [h1]; simpa using hk2⟩
      have e1 : vx = _ := hx2
      have e2 : vy = _ := hy2
      rw [e1, e2]
      unfold Op.equalIn
      rw [Sem.run_bind, run_underlying hu]
      simp
    · rename_i a xs b ys hu
      have hag : tagg P t = false := by simp [tagg, hu]
      rcases hx with ⟨hx, _⟩ | ⟨_, x, hx1, hx2⟩
      · rw [hag] at hx; cases hx
      rcases hy with ⟨hy, _⟩ | ⟨_, y, hy1, hy2⟩
      · rw [hag] at hy; cases hy
      simp at hx1 hy1; subst hx1; subst hy1
      obtain ⟨h1, hk⟩ := need_elim hk
      simp at h1
      refine ⟨_, ?_, by rw [h1]; simpa using hk⟩
      have e1 : vx = _ := hx2
      have e2 : vy = _ := hy2
      rw [e1, e2]
      unfold Op.equalIn
      rw [Sem.run_bind, run_underlying hu]
      simp
    · rename_i a xs b ys hu
      have hag : tagg P t = false := by simp [tagg, hu]
      rcases hx with ⟨hx, _⟩ | ⟨_, x, hx1, hx2⟩
      · rw [hag] at hx; cases hx
      rcases hy with ⟨hy, _⟩ | ⟨_, y, hy1, hy2⟩
      · rw [hag] at hy; cases hy
      simp at hx1 hy1; subst hx1; subst hy1
      obtain ⟨h1, hk⟩ := need_elim hk
      simp at h1
      refine ⟨_, ?_, by rw [h1]; simpa using hk⟩
      have e1 : vx = _ := hx2
      have e2 : vy = _ := hy2
      rw [e1, e2]
      unfold Op.equalIn
      rw [Sem.run_bind, run_underlying hu]
      simp [string_beq]
    · rename_i xs ys fs hu
      have hag : tagg P t = true := by simp [tagg, hu]
      rcases hx with ⟨_, A, rfl, hA⟩ | ⟨hx, _⟩
      case inr => rw [hag] at hx; cases hx
      rcases hy with ⟨_, B, rfl, hB⟩ | ⟨hy, _⟩
      case inr => rw [hag] at hy; cases hy
      obtain ⟨h1, hk⟩ := need_elim hk
      simp at h1
      have hf : P.fieldsOf t = fs := by simp [Program.fieldsOf, hu]
      obtain ⟨b, off', g1, g2⟩ := eqFs_run (P := P) (w := w) (d := d) (fun t xs ys KB vx vy a b c => eqT_run n t xs ys KB d vx vy a (by omega) b c) hA hB fs.toList 0 _ (by simpa using hk)
      obtain ⟨g3, g4⟩ := need_elim g2
      refine ⟨b, ?_, g4⟩
      rw [run_equalIn_struct w d t A B (by rw [hf]; exact hu) h1, hf]; exact g1
    · exact hk.elim

theorem sameAddr_same (r a b : Nat) : (sameAddr ⟨r, a, none⟩ ⟨r, b, none⟩).run P w = .ok (a == b) w := by
  unfold sameAddr
  simp
  rw [Bool.eq_iff_iff]
  simp

theorem aEq_run (R : Rel μ0 h0 w0 μ lam L h w) {t : TypeId} {x y : AV} {vx vy : Value} (hx : x.rel μ vx) (hy : y.rel μ vy) {KB : Bool → Prop} (hk : aEq P t h x y KB) :
    ∃ b, (Op.equal t vx vy).run P w = .ok b w ∧ KB b := by
  unfold aEq at hk
  unfold Op.equal Op.maxDepth
  split at hk
  · rename_i a b hu
    obtain rfl : vx = _ := hx
    obtain rfl : vy = _ := hy
    refine ⟨_, ?_, hk⟩
    unfold Op.equalIn
    rw [Sem.run_bind, run_underlying hu]; simp
  · rename_i fs xs ys hu
    obtain ⟨h1, hk⟩ := need_elim hk
    simp at h1
    have hag : tagg P t = true := by simp [tagg, hu]
    obtain ⟨A, rfl, hA⟩ := hx
    obtain ⟨B, rfl, hB⟩ := hy
    obtain ⟨b, g1, g2⟩ := eqT_run (P := P) (w := w) 50 t xs ys _ 10000 (.agg A) (.agg B) hk (by omega) (.inl ⟨hag, A, rfl, by rw [← h1.1.2]; simpa using hA⟩) (.inl ⟨hag, B, rfl, by rw [← h1.2]; simpa using hB⟩)
    exact ⟨b, g1, g2⟩
  · rename_i e p hu
    obtain rfl : vy = _ := hy
    cases p with
    | none =>
      obtain rfl : vx = _ := hx
      refine ⟨_, ?_, hk⟩
      unfold Op.equalIn
      rw [Sem.run_bind, run_underlying hu]; simp
    | some p =>
      obtain ⟨m, hm, rfl⟩ := hx
      refine ⟨_, ?_, hk⟩
      unfold Op.equalIn
      rw [Sem.run_bind, run_underlying hu]; simp
  · rename_i e p hu
    obtain rfl : vx = _ := hx
    obtain ⟨m, hm, rfl⟩ := hy
    refine ⟨_, ?_, hk⟩
    unfold Op.equalIn
    rw [Sem.run_bind, run_underlying hu]; simp
  · rename_i e p q hu
    obtain ⟨m1, hm1, rfl⟩ := hx
    obtain ⟨m2, hm2, rfl⟩ := hy
    obtain ⟨h1, hk⟩ := need_elim hk
    simp at h1
    obtain ⟨i, hi⟩ := info_of_tsz h1
    have hrun : ∀ (a b : Addr) (x : Bool), (sameAddr a b).run P w = .ok x w → (Op.equalIn 10000 t (.pointer (some a)) (.pointer (some b))).run P w = .ok x w := by
      intro a b x hab
      unfold Op.equalIn
      rw [Sem.run_bind, run_underlying hu]
      simp only [Result.andThen_ok, Sem.run_bind, run_sizeOf' hi]
      rw [if_pos (by omega)]
      exact hab
    unfold ptrEq at hk
    split at hk
    · rename_i heq
      rw [heq, hm2] at hm1; cases hm1
      refine ⟨_, hrun _ _ _ (sameAddr_same _ _ _), ?_⟩
      have : (m1.s + p.o == m1.s + q.o) = (p.o == q.o) := by
        rw [Bool.eq_iff_iff]; simp
      rw [this]; exact hk
    · rename_i hne
      split at hk
      · rename_i c1 c2 hc1 hc2
        obtain ⟨C1, t1, z1, g1, g2, g3, _, g4, g5⟩ := R.heap.blk _ _ m1 hc1 hm1
        obtain ⟨C2, t2, z2, k1, k2, k3, _, k4, k5⟩ := R.heap.blk _ _ m2 hc2 hm2
        rw [g5 rfl] at g1; rw [k5 rfl] at k1
        have hr := R.heap.sep _ _ _ _ m1 m2 hne hc1 hc2 rfl rfl hm1 hm2
        refine ⟨false, hrun _ _ _ (run_sameAddr_other w (a := ⟨m1.r, m1.s + p.o, none⟩) (b := ⟨m2.r, m2.s + q.o, none⟩) ?_ g1 k1), hk⟩
        intro hc
        simp at hc
        exact hr hc.1
      · exact hk.elim
  · rename_i e s hu
    obtain rfl : vy = _ := hy
    cases s with
    | none =>
      obtain rfl : vx = _ := hx
      refine ⟨_, ?_, hk⟩
      unfold Op.equalIn
      rw [Sem.run_bind, run_underlying hu]; simp
    | some p =>
      obtain ⟨m, c, q, hm, rfl, _⟩ := hx
      refine ⟨_, ?_, hk⟩
      unfold Op.equalIn
      rw [Sem.run_bind, run_underlying hu]; simp
  · rename_i ek ev s hu
    obtain rfl : vy = _ := hy
    cases s with
    | none =>
      obtain rfl : vx = _ := hx
      refine ⟨_, ?_, hk⟩
      unfold Op.equalIn
      rw [Sem.run_bind, run_underlying hu]; simp
    | some p =>
      obtain ⟨m, hm, rfl⟩ := hx
      refine ⟨_, ?_, hk⟩
      unfold Op.equalIn
      rw [Sem.run_bind, run_underlying hu]; simp
  · rename_i hu
    obtain rfl : vx = _ := hx
    obtain rfl : vy = _ := hy
    refine ⟨_, ?_, hk⟩
    unfold Op.equalIn
    rw [Sem.run_bind, run_underlying hu]; simp
  · rename_i hu
    obtain ⟨f', c', rfl, _⟩ := hx
    obtain rfl : vy = _ := hy
    refine ⟨_, ?_, hk⟩
    unfold Op.equalIn
    rw [Sem.run_bind, run_underlying hu]; simp
  · exact hk.elim

theorem run_eqGuard (op : BinOp) (t : TypeId) (x y : Operand) {vx vy : Value} (h1 : vx ≠ .nilIface ∨ vy ≠ .nilIface) (h2 : P.eqGuardType P.depth t = false ∨ ∀ c, vx ≠ .agg c) :
    (eqGuard op t x y vx vy).run P w = .ok () w := by
  unfold eqGuard
  cases op <;> simp only [Bool.not_true, Bool.not_false, Bool.false_eq_true, if_true, if_false, Sem.run_pure]
  all_goals
    split
    · simp at h1
    · rename_i A B
      rcases h2 with h2 | h2
      · simp [h2]
      · exact absurd rfl (h2 A)
    · rfl

theorem aEq_guard {t : TypeId} {x y : AV} {vx vy : Value} (hx : x.rel μ vx) (hy : y.rel μ vy) {KB : Bool → Prop} (hk : aEq P t h x y KB) :
    (vx ≠ .nilIface ∨ vy ≠ .nilIface) ∧ (P.eqGuardType P.depth t = false ∨ ∀ c, vx ≠ .agg c) ∧
      binOp .eql t vx vy = (do pure (.bool (← Op.equal t vx vy))) ∧ binOp .neq t vx vy = (do pure (.bool (!(← Op.equal t vx vy)))) := by
  unfold aEq at hk
  split at hk
  case h_2 =>
    obtain ⟨h1, hk⟩ := need_elim hk
    simp at h1
    obtain ⟨A, rfl, hA⟩ := hx
    obtain ⟨B, rfl, hB⟩ := hy
    exact ⟨.inl (by simp), .inl h1.1.1, rfl, rfl⟩
  case h_10 => exact hk.elim
  case h_1 => obtain rfl : vx = _ := hx; obtain rfl : vy = _ := hy; exact ⟨.inl (by simp), .inr (by simp), rfl, rfl⟩
  case h_3 => rename_i e p hu; obtain rfl : vy = _ := hy; cases p <;> (first | (obtain ⟨_, _, rfl⟩ := hx) | (obtain rfl : vx = _ := hx)) <;> exact ⟨.inl (by simp), .inr (by simp), rfl, rfl⟩
  case h_4 => obtain rfl : vx = _ := hx; obtain ⟨_, _, rfl⟩ := hy; exact ⟨.inl (by simp), .inr (by simp), rfl, rfl⟩
  case h_5 => obtain ⟨_, _, rfl⟩ := hx; obtain ⟨_, _, rfl⟩ := hy; exact ⟨.inl (by simp), .inr (by simp), rfl, rfl⟩
  case h_6 => rename_i e s hu; obtain rfl : vy = _ := hy; cases s <;> (first | (obtain ⟨_, _, _, _, rfl, _⟩ := hx) | (obtain rfl : vx = _ := hx)) <;> exact ⟨.inl (by simp), .inr (by simp), rfl, rfl⟩
  case h_7 => rename_i e1 e2 s hu; obtain rfl : vy = _ := hy; cases s <;> (first | (obtain ⟨_, _, rfl⟩ := hx) | (obtain rfl : vx = _ := hx)) <;> exact ⟨.inl (by simp), .inr (by simp), rfl, rfl⟩
  case h_8 => obtain rfl : vx = _ := hx; obtain rfl : vy = _ := hy; exact ⟨.inl (by simp), .inr (by simp), rfl, rfl⟩
  case h_9 => obtain ⟨_, _, rfl, _⟩ := hx; obtain rfl : vy = _ := hy; exact ⟨.inl (by simp), .inr (by simp), rfl, rfl⟩

theorem out_bin (R : Rel μ0 h0 w0 μ lam L h w) {op : BinOp} {t : TypeId} {ox oy : Operand} {x y : AV} {vx vy : Value} (hx : x.rel μ vx) (hy : y.rel μ vy) (hk : aBin P op t h x y fun v => K (.val v) L h) :
    Out P μ0 h0 w0 μ lam w (do eqGuard op t ox oy vx vy; binOp op t vx vy) K := by
  have fin : ∀ {v : Value} {x' : AV}, (vx ≠ .nilIface ∨ vy ≠ .nilIface) → (P.eqGuardType P.depth t = false ∨ ∀ c, vx ≠ .agg c) → (binOp op t vx vy).run P w = .ok v w → K (.val x') L h → x'.rel μ v →
      Out P μ0 h0 w0 μ lam w (do eqGuard op t ox oy vx vy; binOp op t vx vy) K := by
    intro v x' a1 a2 a3 a4 a5
    refine Out.same R ?_ a4 a5
    rw [Sem.run_bind, run_eqGuard op t ox oy a1 a2]
    exact a3
  unfold aBin at hk
  split at hk
  · rename_i k a k' b
    obtain rfl : vx = _ := hx
    obtain rfl : vy = _ := hy
    unfold aIntS at hk
    split at hk
    · obtain ⟨h1, hk⟩ := need_elim hk
      simp at h1
      exact fin (.inl (by simp)) (.inr (by simp)) (by simp [binOp, Op.shift]; rw [if_neg (by omega)]; rfl) hk rfl
    · obtain ⟨h1, hk⟩ := need_elim hk
      simp at h1
      exact fin (.inl (by simp)) (.inr (by simp)) (by simp [binOp, Op.shift]; rw [if_neg (by omega)]; rfl) hk rfl
    · rename_i hs1 hs2
      obtain ⟨h1, hk2⟩ := need_elim hk
      simp at h1
      subst h1
      obtain ⟨v, x', g1, g2, g3⟩ := out_int (P := P) (t := t) R hk2 (fun hc => hs1 hc) (fun hc => hs2 hc)
      exact fin (.inl (by simp)) (.inr (by simp)) g1 g2 g3
  · rename_i a b
    obtain rfl : vx = _ := hx
    obtain rfl : vy = _ := hy
    obtain ⟨v, x', g1, g2, g3⟩ := out_str (P := P) (t := t) R hk
    exact fin (.inl (by simp)) (.inr (by simp)) g1 g2 g3
  · unfold aCmp at hk
    split at hk
    · obtain ⟨b, g1, g2⟩ := aEq_run (P := P) R hx hy hk
      obtain ⟨a1, a2, a3, _⟩ := aEq_guard hx hy hk
      exact fin a1 a2 (by rw [a3, Sem.run_bind, g1]; rfl) g2 rfl
    · obtain ⟨b, g1, g2⟩ := aEq_run (P := P) R hx hy hk
      obtain ⟨a1, a2, _, a3⟩ := aEq_guard hx hy hk
      exact fin a1 a2 (by rw [a3, Sem.run_bind, g1]; rfl) g2 rfl
    · exact hk.elim

theorem out_un (R : Rel μ0 h0 w0 μ lam L h w) {op : UnOp} {x : AV} {vx : Value} (hx : x.rel μ vx) (hk : aUn op x fun v => K (.val v) L h) :
    Out P μ0 h0 w0 μ lam w (Op.unary op vx) K := by
  unfold aUn at hk
  split at hk
  · obtain rfl : vx = _ := hx; exact Out.same R (by rfl) hk rfl
  · obtain rfl : vx = _ := hx; exact Out.same R (by simp [Op.unary, Op.intBits]; rfl) hk rfl
  · obtain rfl : vx = _ := hx; exact Out.same R (by rfl) hk rfl
  · exact hk.elim

end
end Go.Ab
