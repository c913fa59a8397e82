import Derived.Test.YtjackggnnjdhmaaGreatDoorCG2
import Derived.Laws.Strings
import Derived.Laws.StructEq
import Derived.LaidEql
import Derived.Laws.BytesString
import Derived.Laws.MakeOwn
namespace Go.Ab
set_option linter.unusedSimpArgs false
set_option linter.unusedVariables false
section
variable {P : Program} {μ0 : Ren} {h0 : Heap} {w0 : World} {μ : Ren} {lam : List Nat} {L : Locs} {h : Heap} {w : World} {K : KO}
theorem run_part {μ : Ren} {ty : TypeId} {z : AV} (hok : okTy P ty z = true) {cs : List AV} {C : Array Value} (hc : relL μ cs C.toList) {o : Nat} {KV : AV → Prop} (hi : ∃ i, P.info? ty = some i) (hp : part z cs o KV) :
    ∃ v x, (Go.part ty C o).run P w = .ok v w ∧ KV x ∧ x.rel μ v := by
  obtain ⟨h1, h2, ⟨d, hd⟩, _⟩ := okTy_parts hok
  obtain ⟨i, hi⟩ := hi
  have hag := run_isAgg (w := w) hd
  have hl := hc.length
  unfold Ab.part at hp
  cases hg : isAgg z with
  | true =>
    rw [hg] at hp h2
    obtain ⟨hle, hp⟩ := need_elim hp
    simp at hle
    refine ⟨.agg (C.extract o (o + tsz P ty)), _, ?_, hp, _, rfl, ?_⟩
    · unfold Go.part
      rw [Sem.run_bind, hag, ← h2]
      simp [run_sizeOf' hi]
    · have := (hc.drop o).take (tsz P ty)
      rw [h1]
      simpa [Array.toList_extract, List.extract_eq_drop_take'] using this
  | false =>
    rw [hg] at hp h2
    simp only at hp
    split at hp
    · rename_i v hv
      obtain ⟨y, hy, hxy⟩ := hc.get hv
      refine ⟨y, v, ?_, hp, hxy⟩
      unfold Go.part
      rw [Sem.run_bind, hag, ← h2]
      have : C[o]? = some y := by simpa using hy
      simp [this]
    · exact hp.elim
theorem out_field (R : Rel μ0 h0 w0 μ lam L h w) {ρ : List LV} {a : Act} (E : EnvRel μ lam ρ a.tmps) {s : TypeId} {x : Operand} {f : Nat}
    (hk : match fieldOff P s f, ev ρ x with
    | some (off, ft), .val (.agg cs) =>
      match tz P ft with
      | some z => need (okTy P ft z) (Ab.part z cs off fun v => K (.val v) L h)
      | none => False
    | _, _ => False) :
    Out P μ0 h0 w0 μ lam w (Instr.field s (a.eval x) f) K := by
  split at hk
  · rename_i off ft cs hf hx
    obtain ⟨C, hv, hc⟩ := E.val hx
    split at hk
    · rename_i z hz
      obtain ⟨hok, hk⟩ := need_elim hk
      obtain ⟨i, _, hi, _⟩ := tz_info hz
      obtain ⟨v, x', g1, g2, g3⟩ := run_part (w := w) hok hc ⟨i, hi⟩ hk
      refine Out.same R ?_ g2 g3
      simp only [fieldOff] at hf
      split at hf
      · rename_i fs hfs
        simp only [Option.map_eq_some_iff] at hf
        obtain ⟨fd, hfd, heq⟩ := hf
        simp only [Prod.mk.injEq] at heq
        obtain ⟨rfl, rfl⟩ := heq
        unfold Instr.field
        rw [Sem.run_bind, run_underlying hfs]
        simp only [Result.andThen_ok, hfd, hv, asAgg, Sem.run_bind, Sem.run_pure]
        exact g1
      · cases hf
    · exact hk.elim
  · exact hk.elim
theorem out_extract (R : Rel μ0 h0 w0 μ lam L h w) {ρ : List LV} {a : Act} (E : EnvRel μ lam ρ a.tmps) {x : Operand} {i : Nat}
    (hk : match ev ρ x with | .val (.tup vs) => (match vs[i]? with | some v => K (.val v) L h | none => False) | _ => False) :
    Out P μ0 h0 w0 μ lam w (Instr.extract (a.eval x) i) K := by
  split at hk
  · rename_i vs hx
    obtain ⟨C, hv, hc⟩ := E.val hx
    split at hk
    · rename_i v hv'
      obtain ⟨y, hy, hxy⟩ := hc.get hv'
      refine Out.same R ?_ hk hxy
      have : C[i]? = some y := by simpa using hy
      rw [hv]; simp [Instr.extract, this]
    · exact hk.elim
  · exact hk.elim
theorem out_index (R : Rel μ0 h0 w0 μ lam L h w) {ρ : List LV} {a : Act} (E : EnvRel μ lam ρ a.tmps) {t : TypeId} {x ix : Operand}
    (hk : match evI ρ ix, P.underlying t, ev ρ x with
    | some i, some .string, .val (.str s) => strIdx s i fun v => K (.val v) L h
    | _, _, _ => False) :
    Out P μ0 h0 w0 μ lam w (Instr.index t (a.eval x) (a.eval ix)) K := by
  split at hk
  · rename_i i s hi ht hx
    obtain ⟨k, hk'⟩ := E.int hi
    have hv : a.eval x = _ := E.val hx
    obtain ⟨h0i, hk⟩ := hk
    split at hk
    · rename_i b hb
      have hb : (s[i.toNat]? : Option UInt8) = some b := hb
      refine Out.same R (v := .int .u8 b.toNat) ?_ hk rfl
      rw [hk', hv]
      unfold Instr.index
      simp only [asIntOf, Sem.run_bind, Sem.run_pure, Result.andThen_ok, run_underlying ht]
      have : (ByteArray.mk s.toArray)[i.toNat]? = some b := by
        have hlt := lt_of_get hb
        have : i.toNat < (ByteArray.mk s.toArray).size := by simpa [ByteArray.size] using hlt
        rw [getElem?_pos (ByteArray.mk s.toArray) i.toNat this]
        congr 1
        show s.toArray[i.toNat] = b
        simp only [List.getElem_toArray]
        rw [List.getElem?_eq_getElem hlt] at hb
        exact Option.some.inj hb
      simp [h0i, this]
    · exact hk.elim
  · exact hk.elim
theorem toList_mk (s : List UInt8) : (ByteArray.mk s.toArray).toList = s := by rw [ByteArray.toList_eq]
theorem out_int (R : Rel μ0 h0 w0 μ lam L h w) {op : BinOp} {k : IntKind} {x y : Int} {KV : AV → Prop} (hk : aInt op k x y KV) (hs1 : op ≠ .shl) (hs2 : op ≠ .shr) {t : TypeId} :
    ∃ v x', (binOp op t (.int k x) (.int k y)).run P w = .ok v w ∧ KV x' ∧ x'.rel μ v := by
  cases op <;> simp only [aInt] at hk <;> first
    | exact absurd rfl hs1
    | exact absurd rfl hs2
    | exact hk.elim
    | (refine ⟨_, _, ?_, hk, rfl⟩; simp [binOp, Op.intArith, Op.intBits, Op.intCmp, wrapK, bitsAnd, bitsOr, bitsXor, bitsAndNot]; done)
    | (obtain ⟨h1, hk⟩ := need_elim hk; refine ⟨_, _, ?_, hk, rfl⟩; simp at h1; simp [binOp, Op.intDiv, h1, wrapK])
theorem out_str (R : Rel μ0 h0 w0 μ lam L h w) {op : BinOp} {x y : List UInt8} {KV : AV → Prop} (hk : aStr op x y KV) {t : TypeId} :
    ∃ v x', (binOp op t (.string ⟨x.toArray⟩) (.string ⟨y.toArray⟩)).run P w = .ok v w ∧ KV x' ∧ x'.rel μ v := by
  cases op <;> simp only [aStr] at hk <;> first
    | exact hk.elim
    | (refine ⟨_, _, ?_, hk, rfl⟩; simp [binOp, Op.stringOp, toList_mk, bytesLess]; done)
    | skip
  obtain ⟨h1, hk⟩ := need_elim hk
  simp at h1
  refine ⟨.string (⟨x.toArray⟩ ++ ⟨y.toArray⟩), _, ?_, hk, ?_⟩
  · simp only [binOp, Op.stringOp]
    rw [if_neg (by simp [ByteArray.size, IntKind.max, IntKind.signed, IntKind.bits]; omega)]
    rfl
  · show Value.string _ = Value.string _
    congr 1
def TyVal (P : Program) (μ : Ren) (t : TypeId) (xs : List AV) (v : Value) : Prop :=
  (tagg P t = true ∧ ∃ A, v = .agg A ∧ relL μ (xs.take (tsz P t)) A.toList) ∨ (tagg P t = false ∧ ∃ x, xs[0]? = some x ∧ x.rel μ v)
theorem string_beq (a b : List UInt8) : ((⟨a.toArray⟩ : ByteArray) == ⟨b.toArray⟩) = (a == b) := by
  rw [beq_toListBytes, toList_mk, toList_mk]
theorem eqFs_run {n d : Nat} (ih : ∀ (t : TypeId) (xs ys : List AV) (KB : Bool → List AV → List AV → Prop) (vx vy : Value),
      eqT P n t xs ys KB → TyVal P μ t xs vx → TyVal P μ t ys vy → ∃ b, (Op.equalIn d t vx vy).run P w = .ok b w ∧ KB b (xs.drop (tsz P t)) (ys.drop (tsz P t)))
    {X Y : List AV} {A B : Array Value} (hA : relL μ X A.toList) (hB : relL μ Y B.toList) :
    ∀ (fs : List Field) (off : Nat) (KB : Bool → List AV → List AV → Prop), eqFs P (eqT P n) fs off (X.drop off) (Y.drop off) KB →
      ∃ b off', (Op.eqFields d A B fs).run P w = .ok b w ∧ KB b (X.drop off') (Y.drop off')
  | [], off, KB, hk => ⟨true, off, by simp [Op.eqFields], hk⟩
  | f :: fs, off, KB, hk => by
    simp only [eqFs] at hk
    obtain ⟨h1, hk⟩ := need_elim hk
    simp [Option.isSome_iff_exists] at h1
    obtain ⟨⟨⟨⟨⟨⟨h1, h2⟩, h0⟩, h3⟩, h4⟩, ⟨i, hi⟩⟩, ⟨dd, hd⟩⟩ := h1
    have mk : ∀ {Z : List AV} {C : Array Value}, relL μ Z C.toList → tsz P f.type ≤ Z.length - off → ∃ v, (Go.part f.type C f.offset).run P w = .ok v w ∧ TyVal P μ f.type (Z.drop off) v := by
      intro Z C hC hle
      have hl := hC.length
      unfold Go.part
      rw [Sem.run_bind, run_isAgg hd]
      simp only [Result.andThen_ok]
      cases hg : tagg P f.type with
      | true =>
        refine ⟨.agg (C.extract off (off + tsz P f.type)), by simp [run_sizeOf' hi, h1], .inl ⟨hg, _, rfl, ?_⟩⟩
        have := (hC.drop off).take (tsz P f.type)
        simpa [Array.toList_extract, List.extract_eq_drop_take'] using this
      | false =>
        have hlt : off < Z.length := by omega
        obtain ⟨x, hx⟩ : ∃ x, Z[off]? = some x := ⟨Z[off], by simp [hlt]⟩
        obtain ⟨y, hy, hxy⟩ := hC.get hx
        have hy' : C[f.offset]? = some y := by rw [h1]; simpa using hy
        exact ⟨y, by simp [hy'], .inr ⟨hg, x, by simpa using hx, hxy⟩⟩
    obtain ⟨va, g1, g2⟩ := mk hA (by simpa using h3)
    obtain ⟨vb, g3, g4⟩ := mk hB (by simpa using h4)
    obtain ⟨b, g5, g6⟩ := ih _ _ _ _ va vb hk g2 g4
    rw [List.drop_drop, List.drop_drop] at g6
    obtain ⟨r, off', g7, g8⟩ := eqFs_run ih hA hB fs _ _ g6
    refine ⟨b && r, off', ?_, g8⟩
    simp only [Op.eqFields]
    rw [if_pos (by simpa using h2)]
    simp only [Sem.run_bind, g1, g3, g5, Result.andThen_ok]
    cases b
    · simp
    · simpa using g7
theorem eqT_run : ∀ (n : Nat) (t : TypeId) (xs ys : List AV) (KB : Bool → List AV → List AV → Prop) (d : Nat) (vx vy : Value),
    eqT P n t xs ys KB → n ≤ d → TyVal P μ t xs vx → TyVal P μ t ys vy →
    ∃ b, (Op.equalIn d t vx vy).run P w = .ok b w ∧ KB b (xs.drop (tsz P t)) (ys.drop (tsz P t))
  | 0, _, _, _, _, _, _, _, hk, _, _, _ => hk.elim
  | n + 1, t, xs, ys, KB, 0, vx, vy, hk, hd, _, _ => by omega
  | n + 1, t, xs, ys, KB, d + 1, vx, vy, hk, hd, hx, hy => by
    unfold eqT at hk
    split at hk
    · rename_i kk k a xs k' b ys hu
      have hag : tagg P t = false := by simp [tagg, hu]
      rcases hx with ⟨hx, _⟩ | ⟨_, x, hx1, hx2⟩
      · rw [hag] at hx; cases hx
      rcases hy with ⟨hy, _⟩ | ⟨_, y, hy1, hy2⟩
      · rw [hag] at hy; cases hy
      simp at hx1 hy1; subst hx1; subst hy1
      obtain ⟨h1, hk2⟩ := need_elim hk
      simp at h1
      obtain ⟨rfl, h1⟩ := h1
      refine ⟨_, ?_, by rw [h1]; simpa using hk2⟩
      have e1 : vx = _ := hx2
      have e2 : vy = _ := hy2
      rw [e1, e2]
      unfold Op.equalIn
      rw [Sem.run_bind, run_underlying hu]
      simp
    · rename_i a xs b ys hu
      have hag : tagg P t = false := by simp [tagg, hu]
      rcases hx with ⟨hx, _⟩ | ⟨_, x, hx1, hx2⟩
      · rw [hag] at hx; cases hx
      rcases hy with ⟨hy, _⟩ | ⟨_, y, hy1, hy2⟩
      · rw [hag] at hy; cases hy
      simp at hx1 hy1; subst hx1; subst hy1
      obtain ⟨h1, hk⟩ := need_elim hk
      simp at h1
      refine ⟨_, ?_, by rw [h1]; simpa using hk⟩
      have e1 : vx = _ := hx2
      have e2 : vy = _ := hy2
      rw [e1, e2]
      unfold Op.equalIn
      rw [Sem.run_bind, run_underlying hu]
      simp
    · rename_i a xs b ys hu
      have hag : tagg P t = false := by simp [tagg, hu]
      rcases hx with ⟨hx, _⟩ | ⟨_, x, hx1, hx2⟩
      · rw [hag] at hx; cases hx
      rcases hy with ⟨hy, _⟩ | ⟨_, y, hy1, hy2⟩
      · rw [hag] at hy; cases hy
      simp at hx1 hy1; subst hx1; subst hy1
      obtain ⟨h1, hk⟩ := need_elim hk
      simp at h1
      refine ⟨_, ?_, by rw [h1]; simpa using hk⟩
      have e1 : vx = _ := hx2
      have e2 : vy = _ := hy2
      rw [e1, e2]
      unfold Op.equalIn
      rw [Sem.run_bind, run_underlying hu]
      simp [string_beq]
    · rename_i xs ys fs hu
      have hag : tagg P t = true := by simp [tagg, hu]
      rcases hx with ⟨_, A, rfl, hA⟩ | ⟨hx, _⟩
      case inr => rw [hag] at hx; cases hx
      rcases hy with ⟨_, B, rfl, hB⟩ | ⟨hy, _⟩
      case inr => rw [hag] at hy; cases hy
      obtain ⟨h1, hk⟩ := need_elim hk
      simp at h1
      have hf : P.fieldsOf t = fs := by simp [Program.fieldsOf, hu]
      obtain ⟨b, off', g1, g2⟩ := eqFs_run (P := P) (w := w) (d := d) (fun t xs ys KB vx vy a b c => eqT_run n t xs ys KB d vx vy a (by omega) b c) hA hB fs.toList 0 _ (by simpa using hk)
      obtain ⟨g3, g4⟩ := need_elim g2
      refine ⟨b, ?_, g4⟩
      rw [run_equalIn_struct w d t A B (by rw [hf]; exact hu) h1, hf]; exact g1
    · exact hk.elim
theorem sameAddr_same (r a b : Nat) : (sameAddr ⟨r, a, none⟩ ⟨r, b, none⟩).run P w = .ok (a == b) w := by
  unfold sameAddr
  simp
  rw [Bool.eq_iff_iff]
  simp
theorem aEq_run (R : Rel μ0 h0 w0 μ lam L h w) {t : TypeId} {x y : AV} {vx vy : Value} (hx : x.rel μ vx) (hy : y.rel μ vy) {KB : Bool → Prop} (hk : aEq P t h x y KB) :
    ∃ b, (Op.equal t vx vy).run P w = .ok b w ∧ KB b := by
  unfold aEq at hk
  unfold Op.equal Op.maxDepth
  split at hk
  · rename_i a b hu
    obtain rfl : vx = _ := hx
    obtain rfl : vy = _ := hy
    refine ⟨_, ?_, hk⟩
    unfold Op.equalIn
    rw [Sem.run_bind, run_underlying hu]; simp
  · rename_i fs xs ys hu
    obtain ⟨h1, hk⟩ := need_elim hk
    simp at h1
    have hag : tagg P t = true := by simp [tagg, hu]
    obtain ⟨A, rfl, hA⟩ := hx
    obtain ⟨B, rfl, hB⟩ := hy
    obtain ⟨b, g1, g2⟩ := eqT_run (P := P) (w := w) 50 t xs ys _ 10000 (.agg A) (.agg B) hk (by omega) (.inl ⟨hag, A, rfl, by rw [← h1.1.2]; simpa using hA⟩) (.inl ⟨hag, B, rfl, by rw [← h1.2]; simpa using hB⟩)
    exact ⟨b, g1, g2⟩
  · rename_i e p hu
    obtain rfl : vy = _ := hy
    cases p with
    | none =>
      obtain rfl : vx = _ := hx
      refine ⟨_, ?_, hk⟩
      unfold Op.equalIn
      rw [Sem.run_bind, run_underlying hu]; simp
    | some p =>
      obtain ⟨m, hm, rfl⟩ := hx
      refine ⟨_, ?_, hk⟩
      unfold Op.equalIn
      rw [Sem.run_bind, run_underlying hu]; simp
  · rename_i e p hu
    obtain rfl : vx = _ := hx
    obtain ⟨m, hm, rfl⟩ := hy
    refine ⟨_, ?_, hk⟩
    unfold Op.equalIn
    rw [Sem.run_bind, run_underlying hu]; simp
  · rename_i e p q hu
    obtain ⟨m1, hm1, rfl⟩ := hx
    obtain ⟨m2, hm2, rfl⟩ := hy
    obtain ⟨h1, hk⟩ := need_elim hk
    simp at h1
    obtain ⟨i, hi⟩ := info_of_tsz h1
    have hrun : ∀ (a b : Addr) (x : Bool), (sameAddr a b).run P w = .ok x w → (Op.equalIn 10000 t (.pointer (some a)) (.pointer (some b))).run P w = .ok x w := by
      intro a b x hab
      unfold Op.equalIn
      rw [Sem.run_bind, run_underlying hu]
      simp only [Result.andThen_ok, Sem.run_bind, run_sizeOf' hi]
      rw [if_pos (by omega)]
      exact hab
    unfold ptrEq at hk
    split at hk
    · rename_i heq
      rw [heq, hm2] at hm1; cases hm1
      refine ⟨_, hrun _ _ _ (sameAddr_same _ _ _), ?_⟩
      have : (m1.s + p.o == m1.s + q.o) = (p.o == q.o) := by
        rw [Bool.eq_iff_iff]; simp
      rw [this]; exact hk
    · rename_i hne
      split at hk
      · rename_i c1 c2 hc1 hc2
        obtain ⟨C1, t1, z1, g1, g2, g3, _, g4, g5⟩ := R.heap.blk _ _ m1 hc1 hm1
        obtain ⟨C2, t2, z2, k1, k2, k3, _, k4, k5⟩ := R.heap.blk _ _ m2 hc2 hm2
        rw [g5 rfl] at g1; rw [k5 rfl] at k1
        have hr := R.heap.sep _ _ _ _ m1 m2 hne hc1 hc2 rfl rfl hm1 hm2
        refine ⟨false, hrun _ _ _ (run_sameAddr_other w (a := ⟨m1.r, m1.s + p.o, none⟩) (b := ⟨m2.r, m2.s + q.o, none⟩) ?_ g1 k1), hk⟩
        intro hc
        simp at hc
        exact hr hc.1
      · exact hk.elim
  · rename_i e s hu
    obtain rfl : vy = _ := hy
    cases s with
    | none =>
      obtain rfl : vx = _ := hx
      refine ⟨_, ?_, hk⟩
      unfold Op.equalIn
      rw [Sem.run_bind, run_underlying hu]; simp
    | some p =>
      obtain ⟨m, c, q, hm, rfl, _⟩ := hx
      refine ⟨_, ?_, hk⟩
      unfold Op.equalIn
      rw [Sem.run_bind, run_underlying hu]; simp
  · rename_i ek ev s hu
    obtain rfl : vy = _ := hy
    cases s with
    | none =>
      obtain rfl : vx = _ := hx
      refine ⟨_, ?_, hk⟩
      unfold Op.equalIn
      rw [Sem.run_bind, run_underlying hu]; simp
    | some p =>
      obtain ⟨m, hm, rfl⟩ := hx
      refine ⟨_, ?_, hk⟩
      unfold Op.equalIn
      rw [Sem.run_bind, run_underlying hu]; simp
  · rename_i hu
    obtain rfl : vx = _ := hx
    obtain rfl : vy = _ := hy
    refine ⟨_, ?_, hk⟩
    unfold Op.equalIn
    rw [Sem.run_bind, run_underlying hu]; simp
  · rename_i hu
    obtain ⟨_, f', c', rfl⟩ := rel_func hx
    obtain rfl : vy = _ := hy
    refine ⟨_, ?_, hk⟩
    unfold Op.equalIn
    rw [Sem.run_bind, run_underlying hu]; simp
  · exact hk.elim
theorem run_eqGuard (op : BinOp) (t : TypeId) (x y : Operand) {vx vy : Value} (h1 : vx ≠ .nilIface ∨ vy ≠ .nilIface) (h2 : P.eqGuardType P.depth t = false ∨ ∀ c, vx ≠ .agg c) :
    (eqGuard op t x y vx vy).run P w = .ok () w := by
  unfold eqGuard
  cases op <;> simp only [Bool.not_true, Bool.not_false, Bool.false_eq_true, if_true, if_false, Sem.run_pure]
  all_goals
    split
    · simp at h1
    · rename_i A B
      rcases h2 with h2 | h2
      · simp [h2]
      · exact absurd rfl (h2 A)
    · rfl
theorem aEq_guard {t : TypeId} {x y : AV} {vx vy : Value} (hx : x.rel μ vx) (hy : y.rel μ vy) {KB : Bool → Prop} (hk : aEq P t h x y KB) :
    (vx ≠ .nilIface ∨ vy ≠ .nilIface) ∧ (P.eqGuardType P.depth t = false ∨ ∀ c, vx ≠ .agg c) ∧
      binOp .eql t vx vy = (do pure (.bool (← Op.equal t vx vy))) ∧ binOp .neq t vx vy = (do pure (.bool (!(← Op.equal t vx vy)))) := by
  unfold aEq at hk
  split at hk
  case h_2 =>
    obtain ⟨h1, hk⟩ := need_elim hk
    simp at h1
    obtain ⟨A, rfl, hA⟩ := hx
    obtain ⟨B, rfl, hB⟩ := hy
    exact ⟨.inl (by simp), .inl h1.1.1, rfl, rfl⟩
  case h_10 => exact hk.elim
  case h_1 => obtain rfl : vx = _ := hx; obtain rfl : vy = _ := hy; exact ⟨.inl (by simp), .inr (by simp), rfl, rfl⟩
  case h_3 => rename_i e p hu; obtain rfl : vy = _ := hy; cases p <;> (first | (obtain ⟨_, _, rfl⟩ := hx) | (obtain rfl : vx = _ := hx)) <;> exact ⟨.inl (by simp), .inr (by simp), rfl, rfl⟩
  case h_4 => obtain rfl : vx = _ := hx; obtain ⟨_, _, rfl⟩ := hy; exact ⟨.inl (by simp), .inr (by simp), rfl, rfl⟩
  case h_5 => obtain ⟨_, _, rfl⟩ := hx; obtain ⟨_, _, rfl⟩ := hy; exact ⟨.inl (by simp), .inr (by simp), rfl, rfl⟩
  case h_6 => rename_i e s hu; obtain rfl : vy = _ := hy; cases s <;> (first | (obtain ⟨_, _, _, _, rfl, _⟩ := hx) | (obtain rfl : vx = _ := hx)) <;> exact ⟨.inl (by simp), .inr (by simp), rfl, rfl⟩
  case h_7 => rename_i e1 e2 s hu; obtain rfl : vy = _ := hy; cases s <;> (first | (obtain ⟨_, _, rfl⟩ := hx) | (obtain rfl : vx = _ := hx)) <;> exact ⟨.inl (by simp), .inr (by simp), rfl, rfl⟩
  case h_8 => obtain rfl : vx = _ := hx; obtain rfl : vy = _ := hy; exact ⟨.inl (by simp), .inr (by simp), rfl, rfl⟩
  case h_9 => obtain ⟨_, _, _, rfl⟩ := rel_func hx; obtain rfl : vy = _ := hy; exact ⟨.inl (by simp), .inr (by simp), rfl, rfl⟩
theorem out_bin (R : Rel μ0 h0 w0 μ lam L h w) {op : BinOp} {t : TypeId} {ox oy : Operand} {x y : AV} {vx vy : Value} (hx : x.rel μ vx) (hy : y.rel μ vy) (hk : aBin P op t h x y fun v => K (.val v) L h) :
    Out P μ0 h0 w0 μ lam w (do eqGuard op t ox oy vx vy; binOp op t vx vy) K := by
  have fin : ∀ {v : Value} {x' : AV}, (vx ≠ .nilIface ∨ vy ≠ .nilIface) → (P.eqGuardType P.depth t = false ∨ ∀ c, vx ≠ .agg c) → (binOp op t vx vy).run P w = .ok v w → K (.val x') L h → x'.rel μ v →
      Out P μ0 h0 w0 μ lam w (do eqGuard op t ox oy vx vy; binOp op t vx vy) K := by
    intro v x' a1 a2 a3 a4 a5
    refine Out.same R ?_ a4 a5
    rw [Sem.run_bind, run_eqGuard op t ox oy a1 a2]
    exact a3
  unfold aBin at hk
  split at hk
  · rename_i k a k' b
    obtain rfl : vx = _ := hx
    obtain rfl : vy = _ := hy
    unfold aIntS at hk
    split at hk
    · obtain ⟨h1, hk⟩ := need_elim hk
      simp at h1
      exact fin (.inl (by simp)) (.inr (by simp)) (by simp [binOp, Op.shift]; rw [if_neg (by omega)]; rfl) hk rfl
    · obtain ⟨h1, hk⟩ := need_elim hk
      simp at h1
      exact fin (.inl (by simp)) (.inr (by simp)) (by simp [binOp, Op.shift]; rw [if_neg (by omega)]; rfl) hk rfl
    · rename_i hs1 hs2
      obtain ⟨h1, hk2⟩ := need_elim hk
      simp at h1
      subst h1
      obtain ⟨v, x', g1, g2, g3⟩ := out_int (P := P) (t := t) R hk2 (fun hc => hs1 hc) (fun hc => hs2 hc)
      exact fin (.inl (by simp)) (.inr (by simp)) g1 g2 g3
  · rename_i a b
    obtain rfl : vx = _ := hx
    obtain rfl : vy = _ := hy
    obtain ⟨v, x', g1, g2, g3⟩ := out_str (P := P) (t := t) R hk
    exact fin (.inl (by simp)) (.inr (by simp)) g1 g2 g3
  · unfold aCmp at hk
    split at hk
    · obtain ⟨b, g1, g2⟩ := aEq_run (P := P) R hx hy hk
      obtain ⟨a1, a2, a3, _⟩ := aEq_guard hx hy hk
      exact fin a1 a2 (by rw [a3, Sem.run_bind, g1]; rfl) g2 rfl
    · obtain ⟨b, g1, g2⟩ := aEq_run (P := P) R hx hy hk
      obtain ⟨a1, a2, _, a3⟩ := aEq_guard hx hy hk
      exact fin a1 a2 (by rw [a3, Sem.run_bind, g1]; rfl) g2 rfl
    · exact hk.elim
theorem out_un (R : Rel μ0 h0 w0 μ lam L h w) {op : UnOp} {x : AV} {vx : Value} (hx : x.rel μ vx) (hk : aUn op x fun v => K (.val v) L h) :
    Out P μ0 h0 w0 μ lam w (Op.unary op vx) K := by
  unfold aUn at hk
  split at hk
  · obtain rfl : vx = _ := hx; exact Out.same R (by rfl) hk rfl
  · obtain rfl : vx = _ := hx; exact Out.same R (by simp [Op.unary, Op.intBits]; rfl) hk rfl
  · obtain rfl : vx = _ := hx; exact Out.same R (by rfl) hk rfl
  · exact hk.elim
end
section
variable {P : Program} {μ0 : Ren} {h0 : Heap} {w0 : World} {μ : Ren} {lam : List Nat} {L : Locs} {h : Heap} {w : World} {K : KO}
theorem foldl_splice : ∀ (l : List Value) (k : Nat) (C : Array Value) (off : Nat), off + k + l.length ≤ C.size →
  (l.zipIdx k).foldl (fun (cs : Array Value) (p : Value × Nat) => cs.setIfInBounds (off + p.2) p.1) C = (splice C.toList (off + k) l).toArray
 | [], k, C, off, _ => by simp [splice_nil]
 | v :: l, k, C, off, hl => by
  simp only [List.length_cons] at hl
  simp only [List.zipIdx_cons, List.foldl_cons]
  rw [foldl_splice l (k + 1) _ off (by simp; omega), Array.toList_setIfInBounds, ← Nat.add_assoc, splice_cons (by simp; omega)]
theorem relL.splice {μ : Ren} {xs : List AV} {l : List Value} (h : relL μ xs l) {ys : List AV} {m : List Value} (h' : relL μ ys m) (o : Nat) : relL μ (Ab.splice xs o ys) (Ab.splice l o m) := by
 unfold Ab.splice
 rw [h'.length]
 exact ((h.take o).append h').append (h.drop _)
theorem fill_rel {μ : Ren} {place : Nat → Option (Nat × Nat)} : ∀ {parts : List (Nat × AV)} {vs : List (Nat × Value)} {cells : List AV} {C : Array Value} {out : List AV},
  relL μ cells C.toList → vs.map (·.1) = parts.map (·.1) → relL μ (parts.map (·.2)) (vs.map (·.2)) → (∀ p ∈ parts, ∀ c, p.2 ≠ .tup c) → fillA place cells parts = some out →
  ∃ O, Instr.fill place C vs = some O ∧ relL μ out O.toList ∧ out.length = cells.length
 | [], vs, cells, C, out, hc, hi, hv, ht, hf => by
  simp [fillA] at hf; subst hf
  simp at hi; subst hi
  exact ⟨C, rfl, hc, rfl⟩
 | (i, x) :: parts, vs, cells, C, out, hc, hi, hv, ht, hf => by
  obtain ⟨y, ys, hl, hxy, hv'⟩ := hv
  cases vs with
  | nil => simp at hl
  | cons p vs =>
   obtain ⟨i', v⟩ := p
   simp at hi hl
   obtain ⟨rfl, hi⟩ := hi
   obtain ⟨rfl, rfl⟩ := hl
   simp only [fillA] at hf
   split at hf
   ·cases hf
   ·rename_i off size hp
    split at hf
    ·cases hf
    ·rename_i hcond
     simp at hcond
     obtain ⟨hsz, hle⟩ := hcond
     have hcells := AV.rel.cells hxy (ht (_, x) (by simp))
     have hcl := hcells.length
     have hvs : v.cells.size = size := by rw [← hsz, ← hcl]; simp
     have hCl := hc.length
     have hCs : C.size = cells.length := by simpa using hCl
     have hfold : v.cells.zipIdx.foldl (fun (cs : Array Value) (p : Value × Nat) => cs.setIfInBounds (off + p.2) p.1) C = (Ab.splice C.toList off v.cells.toList).toArray := by
      rw [← Array.foldl_toList, Array.toList_zipIdx]
      have := foldl_splice v.cells.toList 0 C off (by simp; omega)
      simpa using this
     have hsp := hc.splice hcells off
     obtain ⟨O, g1, g2, g3⟩ := fill_rel (C := (Ab.splice C.toList off v.cells.toList).toArray) (by simpa using hsp) hi hv' (fun p hp => ht p (by simp [hp])) hf
     refine ⟨O, ?_, g2, by rw [g3, splice_length (by omega)]⟩
     simp only [Instr.fill, hp]
     rw [if_neg (by simp; omega), hfold, g1]
theorem partsA_rel {ρ : List LV} {a : Act} (E : EnvRel μ lam ρ a.tmps) {ps : Array (Nat × Operand)} {parts : List (Nat × AV)} (hp : partsA ρ ps = some parts) :
  ((ps.map fun (i, x) => (i, a.eval x)).toList.map (·.1)) = parts.map (·.1) ∧ relL μ (parts.map (·.2)) ((ps.map fun (i, x) => (i, a.eval x)).toList.map (·.2)) := by
 simp only [partsA, Option.map_eq_some_iff] at hp
 obtain ⟨l, hl, rfl⟩ := hp
 have := E.vals _ _ hl
 have hlen := this.length
 have hle : l.length = ps.toList.length := by simpa using hlen.symm
 constructor
 ·rw [List.map_fst_zip (by simp [hle])]
  simp [Function.comp_def]
 ·rw [List.map_snd_zip (by simp [hle])]
  simpa [Function.comp_def] using this
theorem noTups_elim {l : List (Nat × AV)} (h : noTups l = true) : ∀ p ∈ l, ∀ c, p.2 ≠ .tup c := by
 intro p hp c hc
 simp only [noTups, List.all_eq_true] at h
 have := h p hp
 rw [hc] at this
 simp [isTup] at this
theorem mapM_places {fs : Array Field} (hfs : ∀ f ∈ fs.toList, ∃ i, P.info? f.type = some i) :
  (fs.mapM fun f => do pure (f.offset, ← sizeOf f.type) : Sem (Array (Nat × Nat))).run P w = .ok (fs.map fun f => (f.offset, tsz P f.type)) w := by
 have key : ∀ l : List Field, (∀ f ∈ l, ∃ i, P.info? f.type = some i) → (l.mapM fun f => do pure (f.offset, ← sizeOf f.type) : Sem (List (Nat × Nat))).run P w = .ok (l.map fun f => (f.offset, tsz P f.type)) w := by
  intro l
  induction l with
  | nil => intro _; rfl
  | cons f l ih =>
   intro hl
   obtain ⟨i, hi⟩ := hl f (by simp)
   rw [List.mapM_cons]
   simp only [Sem.run_bind, run_sizeOf' hi, Result.andThen_ok, Sem.run_pure, ih (fun g hg => hl g (by simp [hg])), List.map_cons]
 rw [Array.mapM_eq_mapM_toList, Sem.run_map, key _ hfs]
 simp only [Result.andThen_ok]
 rw [← Array.toList_map, Array.toArray_toList]
theorem out_build (R : Rel μ0 h0 w0 μ lam L h w) {ρ : List LV} {a : Act} (E : EnvRel μ lam ρ a.tmps) {t : TypeId} {ps : Array (Nat × Operand)}
  (hk : match tz P t, P.underlying t, partsA ρ ps with
  | some (.agg zs), some (.struct fs), some parts =>
   need (noTups parts && fs.toList.all fun f => (P.info? f.type).isSome) <|
   match fillA (fun i => (fs[i]?).map fun f => (f.offset, tsz P f.type)) zs parts with
   | some cells => K (.val (.agg cells)) L h
   | none => False
  | some (.agg zs), some (.array _ e), some parts =>
   need (noTups parts && (P.info? e).isSome) <|
   match fillA (fun i => some (i * tsz P e, tsz P e)) zs parts with
   | some cells => K (.val (.agg cells)) L h
   | none => False
  | _, _, _ => False) :
  Out P μ0 h0 w0 μ lam w (Instr.build t (ps.map fun (i, x) => (i, a.eval x))) K := by
 split at hk
 ·rename_i zs fs parts hz hu hp
  obtain ⟨h1, hk⟩ := need_elim hk
  simp only [Bool.and_eq_true, List.all_eq_true, Option.isSome_iff_exists] at h1
  split at hk
  ·rename_i cells hf
   obtain ⟨i, zv, hi, hzv, hz'⟩ := tz_info hz
   obtain ⟨Z, hZ, hZr⟩ := ofV_rel μ 4 _ _ hz'
   obtain ⟨e1, e2⟩ := partsA_rel E hp
   obtain ⟨O, g1, g2, g3⟩ := fill_rel (C := Z) hZr e1 e2 (noTups_elim h1.1) hf
   refine Out.same R (v := .agg O) ?_ hk ⟨O, rfl, g2⟩
   unfold Instr.build
   have hzr : (zeroValue t).run P w = .ok zv w := by
    simp only [zeroValue, typeInfo, Sem.run_bind, run_program, Result.andThen_ok, hi, Sem.run_pure, hzv]
   rw [Sem.run_bind, hzr]
   simp only [Result.andThen_ok]
   rw [Sem.run_bind, run_underlying hu]
   simp only [Result.andThen_ok]
   rw [Sem.run_bind, mapM_places h1.2]
   simp only [Result.andThen_ok]
   have hplace : (fun i : Nat => (fs.map fun f : Field => (f.offset, tsz P f.type))[i]?) = (fun i : Nat => (fs[i]?).map fun f : Field => (f.offset, tsz P f.type)) := by
    funext i; simp
   rw [hplace]
   have hzc : zv.cells = Z := by rw [hZ]; rfl
   rw [hzc, g1]
   rfl
  ·exact hk.elim
 ·rename_i zs n e parts hz hu hp
  obtain ⟨h1, hk⟩ := need_elim hk
  simp only [Bool.and_eq_true, Option.isSome_iff_exists] at h1
  obtain ⟨h1, ei, hei⟩ := h1
  split at hk
  ·rename_i cells hf
   obtain ⟨i, zv, hi, hzv, hz'⟩ := tz_info hz
   obtain ⟨Z, hZ, hZr⟩ := ofV_rel μ 4 _ _ hz'
   obtain ⟨e1, e2⟩ := partsA_rel E hp
   obtain ⟨O, g1, g2, g3⟩ := fill_rel (C := Z) hZr e1 e2 (noTups_elim h1) hf
   refine Out.same R (v := .agg O) ?_ hk ⟨O, rfl, g2⟩
   unfold Instr.build
   have hzr : (zeroValue t).run P w = .ok zv w := by
    simp only [zeroValue, typeInfo, Sem.run_bind, run_program, Result.andThen_ok, hi, Sem.run_pure, hzv]
   rw [Sem.run_bind, hzr]
   simp only [Result.andThen_ok]
   rw [Sem.run_bind, run_underlying hu]
   simp only [Result.andThen_ok]
   rw [Sem.run_bind, run_sizeOf' hei]
   simp only [Result.andThen_ok]
   have hzc : zv.cells = Z := by rw [hZ]; rfl
   rw [hzc, g1]
   rfl
  ·exact hk.elim
 ·exact hk.elim
theorem zeros_list (z : Array Value) (n : Nat) : ((Array.range (n * z.size)).map fun i => z[i % z.size]!).toList = (List.replicate n z.toList).flatten := by
 have key : ∀ n, (List.range (n * z.size)).map (fun i => z[i % z.size]!) = (List.replicate n z.toList).flatten := by
  intro n
  induction n with
  | zero => simp
  | succ n ih =>
   rw [show (n + 1) * z.size = z.size + n * z.size by rw [Nat.add_mul]; omega, List.range_add, List.map_append, List.map_map, List.replicate_succ, List.flatten_cons, ← ih]
   congr 1
   ·apply List.ext_getElem?
    intro i
    rw [List.getElem?_map]
    by_cases hi : i < z.size
    ·rw [List.getElem?_range hi]
     simp [Nat.mod_eq_of_lt hi, hi]
    ·rw [List.getElem?_eq_none (by simpa using hi)]
     simp; omega
   ·apply List.map_congr_left
    intro i _
    simp
 rw [Array.toList_map, Array.toList_range, key]
theorem relL.replicate {μ : Ren} {zs : List AV} {l : List Value} (h : relL μ zs l) : ∀ n, relL μ (List.replicate n zs).flatten (List.replicate n l).flatten
 | 0 => rfl
 | n + 1 => by simp only [List.replicate_succ, List.flatten_cons]; exact h.append (relL.replicate h n)
theorem telem_some {t e : TypeId} (h : telem P t = some e) : P.underlying t = some (.slice e) := by
 simp only [telem] at h
 split at h
 ·rename_i e' hu; cases h; exact hu
 ·cases h
theorem zcells_info {t : TypeId} {zs : List AV} (hz : zcells P t = some zs) : ∃ i, P.info? t = some i := by
 simp only [zcells] at hz
 split at hz
 ·rename_i z hz'
  obtain ⟨i, v, hi, _⟩ := tz_info hz'
  exact ⟨i, hi⟩
 ·cases hz
theorem out_row (R : Rel μ0 h0 w0 μ lam L h w) {t : TypeId} {c : List AV} {C : Array Value} (hc : relL μ c C.toList) (ho : oneAll c = true) {n : Nat} (hk : K (.val (.sl (some ⟨h.length, 0, n, n, 0⟩))) L (h ++ [.cells c true])) :
  Out P μ0 h0 w0 μ lam w (do pure (.slice (some (← newRow t C)) n n)) K := by
 have hl := hc.length
 have hsz : C.size = c.length := by simpa using hl
 have hrun : (do pure (.slice (some (← newRow t C)) n n) : Sem Value).run P w = .ok (.slice (some ⟨w.heap.size, 0, none⟩) n n) (w.alloc (.cells C t)) := by
  simp [newRow]
 refine ⟨_, _, _, _, _, _, lam, hrun, hk, R.alloc c C t (by omega) ho (fun i x hx => ?_), Ren.le_append _ _, lamLe.refl _, ⟨w.heap.size, 0, C.size⟩, n, _, ?_, rfl, Nat.le_refl _, .inr rfl, fun _ => rfl, fun hne => absurd rfl hne⟩
 ·obtain ⟨y, hy, hxy⟩ := hc.get hx
  exact ⟨y, by simpa using hy, hxy⟩
 ·simp [R.heap.len]
theorem out_buildSlice (R : Rel μ0 h0 w0 μ lam L h w) {ρ : List LV} {a : Act} (E : EnvRel μ lam ρ a.tmps) {t : TypeId} {n : Nat} {ps : Array (Nat × Operand)}
  (hk : match telem P t with
  | none => False
  | some e =>
   match zcells P e, partsA ρ ps with
   | some zs, some parts =>
    need (decide (n * tsz P e ≤ 16777216) && noTups parts) <|
    match fillA (fun i => some (i * tsz P e, tsz P e)) (List.replicate n zs).flatten parts with
    | some cells => need (oneAll cells) (K (.val (.sl (some ⟨h.length, 0, n, n, 0⟩))) L (h ++ [.cells cells true]))
    | none => False
   | _, _ => False) :
  Out P μ0 h0 w0 μ lam w (Instr.buildSlice t n (ps.map fun (i, x) => (i, a.eval x))) K := by
 split at hk
 ·exact hk.elim
 ·rename_i e he
  have hu := telem_some he
  split at hk
  ·rename_i zs parts hz hp
   obtain ⟨h1, hk⟩ := need_elim hk
   simp at h1
   split at hk
   ·rename_i cells hf
    obtain ⟨ho, hk⟩ := need_elim hk
    obtain ⟨zv, hzr, hzc, hzl⟩ := zcells_zero hz w μ
    obtain ⟨ei, hei⟩ := zcells_info hz
    obtain ⟨e1, e2⟩ := partsA_rel E hp
    have hzsz : zv.cells.size = tsz P e := by have := hzc.length; simp at this; omega
    have hZ : relL μ (List.replicate n zs).flatten (((Array.range (n * tsz P e)).map fun i => zv.cells[i % zv.cells.size]!)).toList := by
     rw [← hzsz, zeros_list]; exact relL.replicate hzc n
    obtain ⟨O, g1, g2, g3⟩ := fill_rel hZ e1 e2 (noTups_elim h1.2) hf
    obtain ⟨v', w', lv, L', h', μ', lam', hr, rest⟩ := out_row (P := P) (t := e) R g2 ho hk
    refine ⟨v', w', lv, L', h', μ', lam', ?_, rest⟩
    rw [← hr]
    unfold Instr.buildSlice
    rw [Sem.run_bind, run_underlying hu]
    simp only [Result.andThen_ok]
    rw [Sem.run_bind, run_sizeOf' hei]
    simp only [Result.andThen_ok]
    rw [if_neg (by omega)]
    by_cases hn : n * tsz P e = 0
    ·rw [if_pos hn]
     have : (Array.range (n * tsz P e)).map (fun i => (#[] : Array Value)[i % (#[] : Array Value).size]!) = (Array.range (n * tsz P e)).map fun i => zv.cells[i % zv.cells.size]! := by rw [hn]; simp
     simp only [Sem.run_bind, Sem.run_pure, Result.andThen_ok]
     rw [this, g1]
     simp only [Sem.run_bind, Sem.run_pure]
    ·rw [if_neg hn]
     simp only [Sem.run_bind, hzr, Sem.run_pure, Result.andThen_ok]
     rw [g1]
     simp only [Sem.run_bind, Sem.run_pure]
   ·exact hk.elim
  ·exact hk.elim
theorem out_makeFunc (R : Rel μ0 h0 w0 μ lam L h w) {ρ : List LV} {a : Act} (E : EnvRel μ lam ρ a.tmps) {fn : Fn} {f c : Array Operand}
  (hk : match fnY fn with | true => False | false => (match vals ρ f.toList, vals ρ c.toList with | some x, some y => K (.val (.func fn x y)) L h | _, _ => False)) :
  Out P μ0 h0 w0 μ lam w (Instr.makeFunc fn (f.map a.eval) (c.map a.eval)) K := by
 split at hk
 ·exact hk.elim
 rename_i hyf
 split at hk
 ·rename_i x y hx hy
  refine Out.same R rfl hk ?_
  have h1 : relL μ x (f.map a.eval).toList := by simpa using E.vals _ _ hx
  have h2 : relL μ y (c.map a.eval).toList := by simpa using E.vals _ _ hy
  cases fn <;> first | exact ⟨_, _, rfl, h1, h2⟩ | exact absurd hyf (by simp [fnY])
 ·exact hk.elim
theorem out_makeInterface (R : Rel μ0 h0 w0 μ lam L h w) {ρ : List LV} {a : Act} (E : EnvRel μ lam ρ a.tmps) {t : TypeId} {x : Operand}
  (hk : match P.underlying t, ev ρ x with | some (.interface _), _ => False | some _, .val v => K (.val (.iface t v)) L h | _, _ => False) :
  Out P μ0 h0 w0 μ lam w (Instr.makeInterface t (a.eval x)) K := by
 split at hk
 ·exact hk.elim
 ·rename_i d v hne hd hx
  refine Out.same R ?_ hk ⟨_, rfl, E.val hx⟩
  unfold Instr.makeInterface
  rw [Sem.run_bind, run_underlying hd]
  simp only [Result.andThen_ok]
  rfl
 ·exact hk.elim
theorem run_sliceBound {x : Value} {y : Nat} {c : BoundsCode} {k : IntKind} {i : Int} (hx : x = .int k i) (h0 : 0 ≤ i) (h1 : i ≤ y) : (Instr.sliceBound x y c).run P w = .ok i.toNat w := by
 subst hx
 simp [Instr.sliceBound, asIntOf, h0, h1]
theorem optI_some {ρ : List LV} {a : Act} (E : EnvRel μ lam ρ a.tmps) {x : Option Operand} {r : Option Int} (h : optI ρ x = some r) :
  (r = none ∧ x.map a.eval = none) ∨ ∃ i k, r = some i ∧ x.map a.eval = some (.int k i) := by
 cases x with
 | none => simp [optI] at h; exact .inl ⟨h.symm, rfl⟩
 | some x =>
  simp only [optI, Option.map_eq_some_iff] at h
  obtain ⟨i, hi, rfl⟩ := h
  obtain ⟨k, hk⟩ := E.int hi
  exact .inr ⟨i, k, rfl, by simp [hk]⟩
theorem run_sliceBounds {isSlice : Bool} {len cap : Nat} {lo hi mx : Option Value} {l : Option Int} {hh m : Option Int}
  (hl : (l = none ∧ lo = none) ∨ ∃ i k, l = some i ∧ lo = some (.int k i)) (hhh : (hh = none ∧ hi = none) ∨ ∃ i k, hh = some i ∧ hi = some (.int k i))
  (hm : (m = none ∧ mx = none) ∨ ∃ i k, m = some i ∧ mx = some (.int k i)) (hmh : m.isSome → hh.isSome)
  (h0 : 0 ≤ l.getD 0) (h1 : l.getD 0 ≤ hh.getD len) (h2 : hh.getD len ≤ m.getD cap) (h3 : m.getD cap ≤ cap) :
  (Instr.sliceBounds isSlice len cap lo hi mx).run P w = .ok ((l.getD 0).toNat, (hh.getD len).toNat, (m.getD cap).toNat) w := by
 unfold Instr.sliceBounds
 rcases hm with ⟨rfl, rfl⟩ | ⟨mi, mk, rfl, rfl⟩
 ·rcases hhh with ⟨rfl, rfl⟩ | ⟨hi', hk', rfl, rfl⟩
  ·rcases hl with ⟨rfl, rfl⟩ | ⟨li, lk, rfl, rfl⟩
   ·simp
   ·simp only [Option.getD_some, Option.getD_none] at *
    simp [run_sliceBound rfl h0 h1]
  ·simp only [Option.getD_some, Option.getD_none] at *
   have hpos : 0 ≤ hi' := by omega
   have e1 : (hi'.toNat : Int) = hi' := Int.toNat_of_nonneg hpos
   rcases hl with ⟨rfl, rfl⟩ | ⟨li, lk, rfl, rfl⟩
   ·simp [run_sliceBound rfl hpos h2]
   ·simp only [Option.getD_some, Option.getD_none] at *
    simp [run_sliceBound rfl hpos h2, run_sliceBound rfl h0 (show li ≤ (hi'.toNat : Int) by omega)]
 ·rcases hhh with ⟨rfl, rfl⟩ | ⟨hi', hk', rfl, rfl⟩
  ·simp at hmh
  ·simp only [Option.getD_some, Option.getD_none] at *
   have hpos : 0 ≤ hi' := by omega
   have mpos : 0 ≤ mi := by omega
   rcases hl with ⟨rfl, rfl⟩ | ⟨li, lk, rfl, rfl⟩
   ·simp [run_sliceBound rfl mpos h3, run_sliceBound rfl hpos (show hi' ≤ (mi.toNat : Int) by omega)]
   ·simp only [Option.getD_some, Option.getD_none] at *
    simp [run_sliceBound rfl mpos h3, run_sliceBound rfl hpos (show hi' ≤ (mi.toNat : Int) by omega), run_sliceBound rfl h0 (show li ≤ (hi'.toNat : Int) by omega)]
end
section
variable {P : Program} {μ0 : Ren} {h0 : Heap} {w0 : World} {μ : Ren} {lam : List Nat} {L : Locs} {h : Heap} {w : World} {K : KO}
structure Src (P : Program) (u : TypeId) (size : Nat) (x : Value) (n : Nat) (news : List Value) (w : World) : Prop where
 ty : (∃ e, P.underlying u = some (.slice e)) ∨ P.underlying u = some .string
 len : (Builtin.lenOf x).run P w = .ok n w
 get : ∀ w' : World, w'.heap = w.heap → (Builtin.firstCells size n x).run P w' = .ok news.toArray w'
theorem run_append_fit {t u ty e : TypeId} {i : TypeInfo} (ht : P.underlying t = some (.slice e)) (hi : P.info? e = some i) {x : Value} {n : Nat} {news : List Value} (S : Src P u i.size x n news w)
  {base : Option Addr} {sLen sCap : Nat} (hfit : sLen + n ≤ sCap) {w' : World}
  (hst : (match base with | some a => storeCells (a.add (sLen * i.size)) news | none => pure () : Sem Unit).run P w = .ok () w') :
  (Builtin.append_ #[t, u] ty #[.slice base sLen sCap, x]).run P w = .ok (.slice base (sLen + n) sCap) w' := by
 have hl := S.len
 have hg := S.get w rfl
 cases base with
 | none =>
  simp at hst
  subst hst
  rcases S.ty with ⟨e', hu⟩ | hu
  all_goals
   simp [Builtin.append_, run_underlying ht, sizeOf, typeInfo, hi, run_underlying hu, hl, hfit, hg]
 | some a =>
  simp at hst
  rcases S.ty with ⟨e', hu⟩ | hu
  all_goals
   simp [Builtin.append_, run_underlying ht, sizeOf, typeInfo, hi, run_underlying hu, hl, hfit, hg, hst]
theorem run_append_new {t u ty e : TypeId} {i : TypeInfo} {z : Value} (ht : P.underlying t = some (.slice e)) (hi : P.info? e = some i) (hz : i.zero = some z) {x : Value} {n : Nat} {news : List Value} (S : Src P u i.size x n news w)
  {base : Option Addr} {sLen sCap : Nat} (hg : sCap < sLen + n) (hb : (sLen + n) * i.bytes ≤ 140737488355328) (hm : sLen + n ≤ 9223372036854775807) {olds : List Value}
  (hold : ∀ w' : World, w'.heap = w.heap → (Builtin.firstCells i.size sLen (.slice base sLen sCap)).run P w' = .ok olds.toArray w') :
  (Builtin.append_ #[t, u] ty #[.slice base sLen sCap, x]).run P w =
   .ok (.slice (some ⟨w.heap.size, 0, none⟩) (sLen + n) (grownCap w (sLen + n) sCap e))
    (w.drew.alloc (.cells (olds.toArray ++ (news.toArray ++ Builtin.zeroCells z.cells (grownCap w (sLen + n) sCap e - (sLen + n)))) e)) := by
 have hl := S.len
 have h1 := S.get w.drew rfl
 have h2 := hold w.drew rfl
 have hn : ¬ (sLen + n ≤ sCap) := by omega
 have h63' : ¬ (9223372036854775807 < ((sLen : Int) + (n : Int))) := by omega
 have hfit := growslice_fits hg hb
 have h48' : ¬ (281474976710656 < Builtin.nextslicecap (sLen + n) sCap * i.bytes) := by omega
 rcases S.ty with ⟨e', hu⟩ | hu
 all_goals
  simp [Builtin.append_, run_underlying ht, sizeOf, typeInfo, hi, hz, zeroValue, run_underlying hu, hl, hn, h63', h48', Question.forced, h1, h2, newRow, grownCap]
theorem set_same {α : Type} {l : List α} {i : Nat} {x : α} (h : l[i]? = some x) : l.set i x = l := by
 apply List.ext_getElem?
 intro j
 rw [List.getElem?_set]
 split
 ·rename_i hij; subst hij
  split
  ·exact h.symm
  ·rw [List.getElem?_eq_none (by omega)]
 ·rfl
theorem store_nothing (a : Addr) : (storeCells a []).run P w = .ok () w := rfl
theorem cells_slice {e : ME} {C : Array Value} {t : TypeId} {fz : Nat × Nat} {c : List AV} (hw : w.heap[e.r]? = some (.cells C t fz))
  (hc : ∀ (i : Nat) (x : AV), c[i]? = some x → ∃ y, C[e.s + i]? = some y ∧ x.rel μ y) {o n : Nat} (hle : o + n ≤ c.length) :
  ∃ vs : List Value, vs.length = n ∧ relL μ ((c.drop o).take n) vs ∧ (∀ j v, vs[j]? = some v → w.cell? ((⟨e.r, e.s + o, none⟩ : Addr).add j) = some v) ∧ vs = (C.toList.drop (e.s + o)).take n := by
 have hlenC : ∀ j, j < n → ∃ y, C[e.s + o + j]? = some y := by
  intro j hj
  have : o + j < c.length := by omega
  obtain ⟨y, hy, _⟩ := hc (o + j) c[o + j] (by simp [this])
  exact ⟨y, by rw [← hy]; congr 1; omega⟩
 have hlen : ((C.toList.drop (e.s + o)).take n).length = n := by
  simp only [List.length_take, List.length_drop, Array.length_toList]
  rcases Nat.eq_zero_or_pos n with h0 | hpos
  ·omega
  ·obtain ⟨y, hy⟩ := hlenC (n - 1) (by omega)
   have : e.s + o + (n - 1) < C.size := by
    rcases Nat.lt_or_ge (e.s + o + (n - 1)) C.size with h' | h'
    ·exact h'
    ·simp [Array.getElem?_eq_none h'] at hy
   omega
 refine ⟨_, hlen, ?_, ?_, rfl⟩
 ·refine relL.of_get (by rw [hlen]; simp; omega) fun j x y hx hy => ?_
  rw [List.getElem?_take] at hx hy
  split at hx
  ·rename_i hj
   rw [if_pos hj] at hy
   rw [List.getElem?_drop] at hx hy
   obtain ⟨y', g1, g2⟩ := hc _ _ hx
   have : C.toList[e.s + o + j]? = some y' := by simpa [Nat.add_assoc] using g1
   rw [this] at hy; cases hy; exact g2
  ·cases hx
 ·intro j v hv
  rw [add_addr, cell_at hw]
  rw [List.getElem?_take] at hv
  split at hv
  ·rw [List.getElem?_drop] at hv; simpa using hv
  ·cases hv
theorem firstCells_of {a : Addr} {size n len cap : Nat} {vs : List Value} (hl : vs.length = n * size) (h : ∀ j v, vs[j]? = some v → w.cell? (a.add j) = some v) :
  ∀ w' : World, w'.heap = w.heap → (Builtin.firstCells size n (.slice (some a) len cap)).run P w' = .ok vs.toArray w' := by
 intro w' hw
 refine run_firstCells_some (P := P) w' size n _ len cap vs hl fun j v hj => ?_
 have := h j v hj
 simpa [World.cell?, hw] using this
structure App (P : Program) (t u ty e : TypeId) (i : TypeInfo) (zv x : Value) (n : Nat) (news : List Value) (w : World) : Prop where
 fit : ∀ {base : Option Addr} {sLen sCap : Nat} {w' : World}, sLen + n ≤ sCap → (match base with | some a => storeCells (a.add (sLen * i.size)) news | none => pure () : Sem Unit).run P w = .ok () w' →
  (Builtin.append_ #[t, u] ty #[.slice base sLen sCap, x]).run P w = .ok (.slice base (sLen + n) sCap) w'
 new : ∀ {base : Option Addr} {sLen sCap : Nat} {olds : List Value}, sCap < sLen + n → (sLen + n) * i.bytes ≤ 140737488355328 → sLen + n ≤ 9223372036854775807 →
  (∀ w' : World, w'.heap = w.heap → (Builtin.firstCells i.size sLen (.slice base sLen sCap)).run P w' = .ok olds.toArray w') →
  (Builtin.append_ #[t, u] ty #[.slice base sLen sCap, x]).run P w =
   .ok (.slice (some ⟨w.heap.size, 0, none⟩) (sLen + n) (grownCap w (sLen + n) sCap e))
    (w.drew.alloc (.cells (olds.toArray ++ (news.toArray ++ Builtin.zeroCells zv.cells (grownCap w (sLen + n) sCap e - (sLen + n)))) e))
theorem App.of_src {t u ty e : TypeId} {i : TypeInfo} {zv : Value} (ht : P.underlying t = some (.slice e)) (hi : P.info? e = some i) (hz : i.zero = some zv) {x : Value} {n : Nat} {news : List Value} (S : Src P u i.size x n news w) :
  App P t u ty e i zv x n news w := ⟨fun hf hs => run_append_fit ht hi S hf hs, fun hg hb hm ho => run_append_new ht hi hz S hg hb hm ho⟩
theorem run_zeros_fit {t u ty e : TypeId} {i : TypeInfo} {z : Value} {k' k : IntKind} (ht : P.underlying t = some (.slice e)) (hu : P.underlying u = some (.int k')) (hi : P.info? e = some i) (hz : i.zero = some z) {n : Nat}
  (hn : n * i.bytes ≤ 281474976710656) (hm : n ≤ 9223372036854775807) {base : Option Addr} {sLen sCap : Nat} (hfit : sLen + n ≤ sCap) {w' : World} (hsz : z.cells.size = i.size)
  (hst : (match base with | some a => storeCells (a.add (sLen * i.size)) (Builtin.zeroCells z.cells n).toList | none => pure () : Sem Unit).run P w = .ok () w') :
  (Builtin.append_ #[t, u] ty #[.slice base sLen sCap, .int k n]).run P w = .ok (.slice base (sLen + n) sCap) w' := by
 have wn : IntKind.i64.wrap (n : Int) = n := by rw [IntKind.wrap_i64]; omega
 have hneg : ¬ ((n : Int) < 0) := by omega
 have h2 : ¬ (281474976710656 < (n : Int) * (i.bytes : Int)) := by
  have : ((n * i.bytes : Nat) : Int) ≤ 281474976710656 := by omega
  rw [Int.natCast_mul] at this; omega
 by_cases h0 : n * i.size = 0
 ·have hzc : Builtin.zeroCells z.cells n = #[] := by
   apply Array.eq_empty_of_size_eq_zero
   rw [size_zeroCells, hsz, h0]
  rw [hzc] at hst
  cases base with
  | none =>
   simp at hst
   subst hst
   simp [Builtin.append_, run_underlying ht, run_underlying hu, sizeOf, typeInfo, hi, asInt, asIntOf, wn, hneg, h2, hfit, h0]
  | some a =>
   simp [store_nothing] at hst
   subst hst
   simp [Builtin.append_, run_underlying ht, run_underlying hu, sizeOf, typeInfo, hi, asInt, asIntOf, wn, hneg, h2, hfit, h0, store_nothing]
 ·cases base with
  | none =>
   simp at hst
   subst hst
   simp [Builtin.append_, run_underlying ht, run_underlying hu, sizeOf, typeInfo, hi, asInt, asIntOf, wn, hneg, h2, hfit, h0, zeroValue, hz]
  | some a =>
   simp at hst
   simp [Builtin.append_, run_underlying ht, run_underlying hu, sizeOf, typeInfo, hi, asInt, asIntOf, wn, hneg, h2, hfit, h0, zeroValue, hz, hst]
theorem run_zeros_new {t u ty e : TypeId} {i : TypeInfo} {z : Value} {k' k : IntKind} (ht : P.underlying t = some (.slice e)) (hu : P.underlying u = some (.int k')) (hi : P.info? e = some i) (hz : i.zero = some z) {n : Nat}
  (hn : n * i.bytes ≤ 281474976710656) (hm : n ≤ 9223372036854775807) {base : Option Addr} {sLen sCap : Nat} (hg : sCap < sLen + n) (hb : (sLen + n) * i.bytes ≤ 140737488355328) (hm2 : sLen + n ≤ 9223372036854775807) (hsz : z.cells.size = i.size) {olds : List Value}
  (hold : ∀ w' : World, w'.heap = w.heap → (Builtin.firstCells i.size sLen (.slice base sLen sCap)).run P w' = .ok olds.toArray w') :
  (Builtin.append_ #[t, u] ty #[.slice base sLen sCap, .int k n]).run P w =
   .ok (.slice (some ⟨w.heap.size, 0, none⟩) (sLen + n) (grownCap w (sLen + n) sCap e))
    (w.drew.alloc (.cells (olds.toArray ++ ((Builtin.zeroCells z.cells n).toList.toArray ++ Builtin.zeroCells z.cells (grownCap w (sLen + n) sCap e - (sLen + n)))) e)) := by
 have wn : IntKind.i64.wrap (n : Int) = n := by rw [IntKind.wrap_i64]; omega
 have hneg : ¬ ((n : Int) < 0) := by omega
 have h2 : ¬ (281474976710656 < (n : Int) * (i.bytes : Int)) := by
  have : ((n * i.bytes : Nat) : Int) ≤ 281474976710656 := by omega
  rw [Int.natCast_mul] at this; omega
 have h3 := hold w.drew rfl
 have hn' : ¬ (sLen + n ≤ sCap) := by omega
 have h63' : ¬ (9223372036854775807 < ((sLen : Int) + (n : Int))) := by omega
 have hfit := growslice_fits hg hb
 have h48' : ¬ (281474976710656 < Builtin.nextslicecap (sLen + n) sCap * i.bytes) := by omega
 by_cases h0 : n * i.size = 0
 ·have hzc : Builtin.zeroCells z.cells n = #[] := by
   apply Array.eq_empty_of_size_eq_zero
   rw [size_zeroCells, hsz, h0]
  rw [hzc]
  simp [Builtin.append_, run_underlying ht, run_underlying hu, sizeOf, typeInfo, hi, hz, zeroValue, asInt, asIntOf, wn, hneg, h2, hn', h63', h48', h0, Question.forced, h3, newRow, grownCap]
 ·simp [Builtin.append_, run_underlying ht, run_underlying hu, sizeOf, typeInfo, hi, hz, zeroValue, asInt, asIntOf, wn, hneg, h2, hn', h63', h48', h0, Question.forced, h3, newRow, grownCap]
theorem out_append (R : Rel μ0 h0 w0 μ lam L h w) {t u ty e : TypeId} (ht : telem P t = some e) {zs : List AV} (hz : zcells P e = some zs) {x : Value} {n : Nat} {xs : List AV} {news : List Value}
  (A : ∀ i zv, P.info? e = some i → i.zero = some zv → App P t u ty e i zv x n news w) (hx : relL μ xs news) (ho : oneAll xs = true) {s : Option SL} {vs : Value} (hs : AV.rel μ (.sl s) vs) {KV : Option SL → Heap → Prop}
  (hm : 0 < tbytes P e)
  (hk : PAppend (tsz P e) (tbytes P e) s n xs h KV) :
  ∃ v w' s' h' μ', (Builtin.append_ #[t, u] ty #[vs, x]).run P w = .ok v w' ∧ KV s' h' ∧ Rel μ0 h0 w0 μ' lam L h' w' ∧ Ren.le μ μ' ∧ AV.rel μ' (.sl s') v := by
 have hu := telem_some ht
 obtain ⟨i, hi⟩ := zcells_info hz
 obtain ⟨zv, hzr, hzc, hzl⟩ := zcells_zero hz w μ
 have hzi : i.zero = some zv := by
  simp only [zeroValue, typeInfo, Sem.run_bind, run_program, Result.andThen_ok, hi, Sem.run_pure] at hzr
  cases hz' : i.zero with
  | none => simp [hz'] at hzr
  | some v => simp [hz'] at hzr; rw [hzr]
 have hsz : tsz P e = i.size := tsz_info hi
 have hby : tbytes P e = i.bytes := by simp [tbytes, Program.bytesOf, hi]
 rw [hby] at hk hm
 have bound : ∀ k : Nat, k * i.bytes ≤ 140737488355328 → k ≤ 9223372036854775807 := by
  intro k hk'
  have : k * 1 ≤ k * i.bytes := Nat.mul_le_mul_left _ hm
  omega
 obtain ⟨hxl, hk⟩ := hk
 have hnl := hx.length
 have hzs : zv.cells.size = tsz P e := by have := hzc.length; simp at this; omega
 have A' := A i zv hi hzi
 have fresh : ∀ {base : Option Addr} {sLen sCap : Nat} {olds : List Value} {old : List AV} {h1 : Heap}, vs = .slice base sLen sCap → sCap < sLen + n → (sLen + n) * i.bytes ≤ 140737488355328 → sLen + n ≤ 9223372036854775807 →
   (∀ w' : World, w'.heap = w.heap → (Builtin.firstCells i.size sLen (.slice base sLen sCap)).run P w' = .ok olds.toArray w') → olds.length = sLen * tsz P e → relL μ old olds → oneAll old = true → 0 < tsz P e → Rel μ0 h0 w0 μ lam L h1 w → h1.length = h.length →
   KV (some ⟨h.length, 0, sLen + n, sLen + n, tsz P e⟩) (h1 ++ [.cells (old ++ xs) true]) →
   ∃ v w' s' h' μ', (Builtin.append_ #[t, u] ty #[vs, x]).run P w = .ok v w' ∧ KV s' h' ∧ Rel μ0 h0 w0 μ' lam L h' w' ∧ Ren.le μ μ' ∧ AV.rel μ' (.sl s') v := by
  intro base sLen sCap olds old h1 hv hg hb hmm hold hol hor hoo hpos R1 hh1 hkk
  have hrun := A'.new hg hb hmm hold
  rw [hv]
  have hge := grownCap_ge w (sLen + n) sCap e
  have hol' := hor.length
  have hCs : (olds.toArray ++ (news.toArray ++ Builtin.zeroCells zv.cells (grownCap w (sLen + n) sCap e - (sLen + n)))).size = grownCap w (sLen + n) sCap e * tsz P e := by
   simp only [Array.size_append, List.size_toArray, size_zeroCells, hzs, hol, hnl, hxl]
   rw [← Nat.add_mul, ← Nat.add_mul]
   congr 1
   omega
  have RD : Rel μ0 h0 w0 μ lam L h1 w.drew := R1.drawn rfl rfl rfl rfl
  have hlen : (old ++ xs).length = (sLen + n) * tsz P e := by simp [hxl, ← hol', hol, Nat.add_mul]
  have RA := RD.alloc (old ++ xs) (olds.toArray ++ (news.toArray ++ Builtin.zeroCells zv.cells (grownCap w (sLen + n) sCap e - (sLen + n)))) e (by rw [hCs, hlen]; exact Nat.mul_le_mul_right _ hge) (oneAll_append hoo ho)
   (fun j y hj => by
    have hall := hor.append hx
    obtain ⟨z, hz1, hz2⟩ := hall.get hj
    refine ⟨z, ?_, hz2⟩
    have hjl := lt_of_get hz1
    have : (olds.toArray ++ (news.toArray ++ Builtin.zeroCells zv.cells (grownCap w (sLen + n) sCap e - (sLen + n)))).toList = (olds ++ news) ++ (Builtin.zeroCells zv.cells (grownCap w (sLen + n) sCap e - (sLen + n))).toList := by simp
    rw [← Array.getElem?_toList, this, List.getElem?_append_left hjl]
    exact hz1)
  refine ⟨_, _, _, _, _, hrun, hkk, RA, Ren.le_append _ _, ⟨w.heap.size, 0, grownCap w (sLen + n) sCap e * tsz P e⟩, grownCap w (sLen + n) sCap e, _, ?_, rfl, Nat.le_refl _, .inr rfl, fun h' => by simp at h'; omega, fun _ => ⟨hge, ?_⟩⟩
  ·left; show (μ ++ [_])[h.length]? = _
   rw [← hh1, ← R1.heap.len, List.getElem?_append_right (Nat.le_refl _), Nat.sub_self, hCs]
   rfl
  ·simp
 cases s with
 | none =>
  obtain rfl : vs = _ := hs
  simp only at hk
  split at hk
  ·rename_i hn0
   subst hn0
   have hnews : news = [] := by apply List.eq_nil_of_length_eq_zero; omega
   refine ⟨_, w, none, h, μ, A'.fit (base := none) (sLen := 0) (sCap := 0) (by omega) rfl, hk, R, .refl _, rfl⟩
  ·obtain ⟨g1, g2, hk⟩ := hk
   have := fresh (base := none) (sLen := 0) (sCap := 0) (olds := []) (old := []) (h1 := h) rfl (by omega) (by simpa using g1) (by simpa using bound n g1) (fun w' _ => by simp [run_firstCells_none]) (by simp) rfl rfl g2 R rfl (by simpa using hk)
   exact this
 | some s =>
  obtain ⟨m, c', q, hmm, rfl, hlc, hq, hx1, hx2⟩ := hs
  simp only at hk
  have hcap : s.cap ≤ c' := by
   by_cases ho' : s.opn = 0
   ·rw [hx1 ho']; omega
   ·exact (hx2 ho').1
  split at hk
  ·rename_i hfit
   split at hk
   ·rename_i c hc
    obtain ⟨hle, hk⟩ := hk
    by_cases hc0 : c' = 0
    ·have hn0 : n = 0 := by omega
     have hxs : xs = [] := by apply List.eq_nil_of_length_eq_zero; rw [hxl, hn0]; simp
     have hnews : news = [] := by apply List.eq_nil_of_length_eq_zero; rw [hnl, hxs]; rfl
     subst hxs; subst hnews
     rw [splice_nil, set_same hc] at hk
     subst hn0
     refine ⟨_, w, _, h, μ, A'.fit (base := some q) (sLen := s.len) (sCap := c') (by omega) (store_nothing _), hk, R, .refl _, m, c', q, hmm, rfl, ?_, hq, hx1, hx2⟩
     simpa using hlc
    ·have hq' := hq.resolve_left hc0
     obtain ⟨C, t', fz, k1, k2, k3, ko, k4, k5⟩ := R.heap.blk _ _ m hc (hmm.resolve_right hc0)
     have hst := run_storeCells (P := P) news w m.r (m.s + (s.o + s.len * tsz P e)) 0 C t' fz k1 (by omega) (oneAll_rel hx ho) (fun j _ => by rw [k5 rfl]; simp)
     have RS := R.store hc (hmm.resolve_right hc0) (o := s.o + s.len * tsz P e) hle hx ho k1
     refine ⟨_, _, _, _, μ, A'.fit (base := some q) (sLen := s.len) (sCap := c') (by omega) ?_, hk, RS, .refl _, m, c', q, hmm, rfl, ?_, hq, hx1, hx2⟩
     ·simp only
      rw [hq', add_addr, ← hsz]
      have := hst
      simp only [Nat.add_zero] at this
      rw [show m.s + s.o + s.len * tsz P e = m.s + (s.o + s.len * tsz P e) by omega]
      exact this
     ·simpa using hfit
   ·obtain ⟨hn0, hk⟩ := hk
    subst hn0
    have hxs : xs = [] := by apply List.eq_nil_of_length_eq_zero; rw [hxl]; simp
    have hnews : news = [] := by apply List.eq_nil_of_length_eq_zero; rw [hnl, hxs]; rfl
    subst hxs; subst hnews
    exact ⟨_, w, _, h, μ, A'.fit (base := some q) (sLen := s.len) (sCap := c') (by omega) (store_nothing _), hk, R, .refl _, m, c', q, hmm, rfl, hlc, hq, hx1, hx2⟩
  ·rename_i hgrow
   obtain ⟨g1, g2, hk⟩ := hk
   split at hk
   ·rename_i old c rw' hold hc
    obtain ⟨c2, rw2, e1, e2, e3⟩ := cellsAt_some hold
    simp only at e1 e2 e3
    rw [hc] at e1; cases e1
    have hblk := fun hc0 : c' ≠ 0 => R.heap.blk _ _ m hc (hmm.resolve_right hc0)
    have hget : ∃ olds : List Value, olds.length = s.len * tsz P e ∧ relL μ old olds ∧ ∀ w' : World, w'.heap = w.heap → (Builtin.firstCells i.size s.len (.slice (some q) s.len c')).run P w' = .ok olds.toArray w' := by
     by_cases hc0 : c' = 0
     ·have hl0 : s.len = 0 := by omega
      refine ⟨[], by simp [hl0], ?_, ?_⟩
      ·have : old = [] := by rw [e3, hl0]; simp
       rw [this]; rfl
      ·intro w' _
       rw [hl0]
       simp [Builtin.firstCells, loadCells, loadCellsFrom]
     ·have hq' := hq.resolve_left hc0
      obtain ⟨C, t', fz, k1, k2, k3, ko, k4, k5⟩ := hblk hc0
      obtain ⟨olds, a1, a2, a3, _⟩ := cells_slice k1 k4 e2
      exact ⟨olds, a1, by rw [e3]; exact a2, by rw [hq']; exact firstCells_of (by rw [a1, hsz]) a3⟩
    obtain ⟨olds, a1, a2, a3⟩ := hget
    have hoo : oneAll old = true := by
     by_cases hc0 : c' = 0
     ·have hl0 : s.len = 0 := by omega
      rw [e3, hl0]; simp [oneAll]
     ·obtain ⟨C, t', fz, k1, k2, k3, ko, k4, k5⟩ := hblk hc0
      rw [e3]; exact oneAll_take (oneAll_drop ko _) _
    split at hk
    ·rename_i hop
     have hc'c := hx1 hop
     exact fresh (h1 := h) rfl (by omega) g1 (bound _ g1) a3 a1 a2 hoo g2 R rfl hk
    ·rename_i hop
     obtain ⟨hrw, hopn, hk⟩ := hk
     subst hrw
     have hx2' := hx2 hop
     have RK := R.kill s.b
     by_cases hreal : c' < s.len + n
     ·exact fresh (h1 := h.set s.b .dead) rfl hreal g1 (bound _ g1) a3 a1 a2 hoo g2 RK (by simp) hk
     ·have hc0 : c' ≠ 0 := by omega
      have hq' := hq.resolve_left hc0
      obtain ⟨C, t', fz, k1, k2, k3, ko, k4, k5⟩ := hblk hc0
      replace hmm := hmm.resolve_right hc0
      rw [hopn] at hx2'
      have hmul : (s.len + n) * tsz P e ≤ c' * tsz P e := Nat.mul_le_mul_right _ (by omega)
      have hroom : s.o + (s.len + n) * tsz P e ≤ m.n := by omega
      rw [Nat.add_mul] at hroom
      have hst := run_storeCells (P := P) news w m.r (m.s + (s.o + s.len * tsz P e)) 0 C t' fz k1 (by omega) (oneAll_rel hx ho) (fun j _ => by rw [k5 rfl]; simp)
      simp only [Nat.add_zero] at hst
      have hownb := R.evo.own s.b _ m hc rfl hmm
      have hfree : ∀ (b : Nat) (B : Blk) (e' : ME), (h.set s.b .dead)[b]? = some B → B.live = true → μ[b]? = some e' → e'.r ≠ m.r := by
       intro b B e' hb hl he'
       rw [List.getElem?_set] at hb
       split at hb
       ·split at hb
        ·cases hb; simp [Blk.live] at hl
        ·cases hb
       ·rename_i hne
        exact (R.heap.sep s.b b _ B m e' hne hc hb rfl hl hmm he').symm
      have hloc : ∀ k : Nat, lam[k]? ≠ some m.r := fun k hk' => R.locs.sep k m.r s.b _ m hk' hc rfl hmm rfl
      have RS := RK.scratch m.r (.cells (splice C.toList (m.s + (s.o + s.len * tsz P e)) news).toArray t' fz) hownb hfree hloc
      have hlt := heap_lt k1
      have hslen : (splice C.toList (m.s + (s.o + s.len * tsz P e)) news).length = C.size := by rw [splice_length (by simp; omega)]; simp
      have holdl : old.length = s.len * tsz P e := by rw [← a2.length, a1]
      have RA := RS.adopt ⟨m.r, m.s + s.o, m.n - s.o⟩ (.cells (old ++ xs) true) hownb (by simpa using hlt) (by
       refine ⟨_, t', fz, setBlk_same _ _ _ hlt, by simp [hslen]; omega, by simp [holdl, hxl]; omega, oneAll_append hoo ho, ?_, k5⟩
       intro j y hj
       simp only [List.getElem?_toArray]
       rw [splice_get (by simp; omega)]
       rw [List.getElem?_append] at hj
       split at hj
       ·rename_i hjl
        rw [if_pos (by omega)]
        rw [e3, List.getElem?_take] at hj
        split at hj
        ·rw [List.getElem?_drop] at hj
         obtain ⟨z, b1, b2⟩ := k4 _ _ hj
         exact ⟨z, by rw [← Nat.add_assoc] at b1; simpa using b1, AV.rel.mono (Ren.le_append _ _) _ _ b2⟩
        ·cases hj
       ·rename_i hjl
        rw [if_neg (by omega)]
        obtain ⟨z, b1, b2⟩ := hx.get hj
        have hb1 := lt_of_get b1
        rw [if_pos (by omega)]
        exact ⟨z, by rw [← b1]; congr 1; omega, AV.rel.mono (Ren.le_append _ _) _ _ b2⟩) hfree hloc
      refine ⟨_, _, _, _, _, A'.fit (base := some q) (sLen := s.len) (sCap := c') (by omega) ?_, hk, RA, Ren.le_append _ _, ⟨m.r, m.s + s.o, m.n - s.o⟩, c', q, ?_, rfl, Nat.le_refl _, .inr (by simp [hq']), fun h' => by simp at h'; omega, fun _ => ⟨by simp; omega, by simp; omega⟩⟩
      ·simp only
       rw [hq', add_addr, ← hsz, show m.s + s.o + s.len * tsz P e = m.s + (s.o + s.len * tsz P e) by omega]
       exact hst
      ·simp [R.heap.len]
   ·exact hk.elim
end
section
variable {P : Program} {μ0 : Ren} {h0 : Heap} {w0 : World} {μ : Ren} {lam : List Nat} {L : Locs} {h : Heap} {w : World} {K : KO}
theorem cut_rel {sz : Nat} {m : ME} {s : SL} {c' : Nat} {q : Addr} {l hh mm : Nat} {mx : Bool} (hm : μ[s.b]? = some m ∨ c' = 0) (hq : c' = 0 ∨ q = ⟨m.r, m.s + s.o, none⟩) (hx1 : s.opn = 0 → c' = s.cap) (hx2 : s.opn ≠ 0 → s.cap ≤ c' ∧ s.o + c' * s.opn ≤ m.n)
  (ho : s.opn = 0 ∨ s.opn = sz) (h1 : l ≤ hh) (h2 : hh ≤ mm) (h3 : mm ≤ s.cap) (hmm : mx = true → mm = s.cap) :
  AV.rel μ (.sl (some ⟨s.b, s.o + l * sz, hh - l, mm - l, if mx then s.opn else 0⟩))
   (.slice (if (if mx then c' else mm) = l then some q else (some (q : Addr)).map (·.add (l * sz))) (hh - l) ((if mx then c' else mm) - l)) := by
 have hcap : s.cap ≤ c' := by
  by_cases ho' : s.opn = 0
  ·rw [hx1 ho']; omega
  ·exact (hx2 ho').1
 have haddr : ∃ q', (if (if mx then c' else mm) = l then some (q : Addr) else (some (q : Addr)).map (·.add (l * sz))) = some q' ∧
   ((if mx then c' else mm) - l = 0 ∨ q' = ⟨m.r, m.s + (s.o + l * sz), none⟩) := by
  by_cases hc : (if mx then c' else mm) = l
  ·exact ⟨q, by rw [if_pos hc], .inl (by omega)⟩
  ·refine ⟨q.add (l * sz), by rw [if_neg hc]; rfl, ?_⟩
   rcases hq with hq | hq
   ·left
    cases mx <;> simp at hc ⊢ <;> omega
   ·right; rw [hq, add_addr, Nat.add_assoc]
 obtain ⟨q', ha, hq'⟩ := haddr
 rw [ha]
 refine ⟨m, _, q', ?_, rfl, by simp only; omega, hq', ?_, ?_⟩
 ·rcases hm with hm | hm
  ·exact .inl hm
  ·right; cases mx <;> simp <;> omega
 ·intro hop
  cases mx
  ·simp
  ·simp at hop
   have := hmm rfl
   simp [hx1 hop, this]
 ·intro hop
  cases mx
  ·simp at hop
  ·simp only [if_true] at hop ⊢
   have := hmm rfl
   obtain ⟨g1, g2⟩ := hx2 hop
   have ho' := ho.resolve_left hop
   refine ⟨by omega, ?_⟩
   rw [← ho']
   have hl : l ≤ c' := by omega
   have : (c' - l) * s.opn + l * s.opn = c' * s.opn := by rw [← Nat.add_mul]; congr 1; omega
   omega
theorem int_nat {a : Int} (h : 0 ≤ a) : ∃ n : Nat, a = n := ⟨a.toNat, (Int.toNat_of_nonneg h).symm⟩
theorem out_cut (R : Rel μ0 h0 w0 μ lam L h w) {sz : Nat} {s : SL} {m : ME} {c' : Nat} {q : Addr} (hm : μ[s.b]? = some m ∨ c' = 0) (hlc : s.len ≤ s.cap) (hq : c' = 0 ∨ q = ⟨m.r, m.s + s.o, none⟩) (hx1 : s.opn = 0 → c' = s.cap)
  (hx2 : s.opn ≠ 0 → s.cap ≤ c' ∧ s.o + c' * s.opn ≤ m.n) {isS : Bool} {lo hi mx : Option Value} {l hh mm : Option Int}
  (hl : (l = none ∧ lo = none) ∨ ∃ i k, l = some i ∧ lo = some (.int k i)) (hhh : (hh = none ∧ hi = none) ∨ ∃ i k, hh = some i ∧ hi = some (.int k i))
  (hmm : (mm = none ∧ mx = none) ∨ ∃ i k, mm = some i ∧ mx = some (.int k i)) (hmh : mm.isSome → hh.isSome) {KS : Option SL → Prop} (hk : PSlice sz (some s) (l.getD 0) hh mm KS) :
  ∃ l' h' m' s', (Instr.sliceBounds isS s.len c' lo hi mx).run P w = .ok (l', h', m') w ∧ KS (some s') ∧
   AV.rel μ (.sl (some s')) (.slice (if m' = l' then some q else (some (q : Addr)).map (·.add (l' * sz))) (h' - l') (m' - l')) := by
 obtain ⟨ho, g1, g2, g3, g4, hk⟩ := hk
 have hcap : s.cap ≤ c' := by
  by_cases ho' : s.opn = 0
  ·rw [hx1 ho']; omega
  ·exact (hx2 ho').1
 have hb1 : hh.getD s.len ≤ mm.getD (c' : Int) := by
  cases mm with
  | none => simp at g3 ⊢; omega
  | some x => simpa using g3
 have hb2 : mm.getD (c' : Int) ≤ c' := by
  cases mm with
  | none => simp
  | some x => simp at g4 ⊢; omega
 have hrun := run_sliceBounds (P := P) (w := w) (isSlice := isS) (len := s.len) (cap := c') hl hhh hmm hmh g1 g2 hb1 hb2
 obtain ⟨ln, hln⟩ := int_nat g1
 obtain ⟨hn, hhn⟩ := int_nat (show 0 ≤ hh.getD (s.len : Int) by omega)
 refine ⟨_, _, _, _, hrun, hk, ?_⟩
 rw [hln, hhn]
 cases mm with
 | none =>
  simp only [Option.getD_none] at g3 g4 ⊢
  have := cut_rel (sz := sz) (mx := true) (mm := s.cap) (l := ln) (hh := hn) hm hq hx1 hx2 ho (by omega) (by omega) (by omega) (fun _ => rfl)
  simp only [if_true, Option.isNone_none] at this ⊢
  simp only [Int.toNat_natCast] at this ⊢
  rw [show ((hn : Int) - (ln : Int)).toNat = hn - ln by omega, show ((s.cap : Int) - (ln : Int)).toNat = s.cap - ln by omega]
  exact this
 | some x =>
  simp only [Option.getD_some] at g3 g4 ⊢
  obtain ⟨xn, hxn⟩ := int_nat (show 0 ≤ x by omega)
  subst hxn
  have := cut_rel (sz := sz) (mx := false) (mm := xn) (l := ln) (hh := hn) hm hq hx1 hx2 ho (by omega) (by omega) (by omega) (fun h => by cases h)
  simp only [Option.isNone_some, Bool.false_eq_true, if_false] at this ⊢
  simp only [Int.toNat_natCast] at this ⊢
  rw [show ((hn : Int) - (ln : Int)).toNat = hn - ln by omega, show ((xn : Int) - (ln : Int)).toNat = xn - ln by omega]
  exact this
theorem out_slice (R : Rel μ0 h0 w0 μ lam L h w) {ρ : List LV} {a : Act} (E : EnvRel μ lam ρ a.tmps) {t : TypeId} {x : Operand} {lo hi mx : Option Operand}
  (hk : match P.underlying t, ev ρ x, optI ρ lo, optI ρ hi, optI ρ mx with
  | some (.slice e), .val (.sl s), some l, some hh, some m => need ((P.info? e).isSome && (m.isNone || hh.isSome)) (PSlice (tsz P e) s (l.getD 0) hh m fun s' => K (.val (.sl s')) L h)
  | some .string, .val (.str s), some l, some hh, some none => strSlice s (l.getD 0) hh fun s' => K (.val (.str s')) L h
  | some (.array n e), .val (.ptr q), some l, some hh, some m => vPtr q fun p => need ((P.info? e).isSome && (m.isNone || hh.isSome)) (PSlice (tsz P e) (some ⟨p.b, p.o, n, n, 0⟩) (l.getD 0) hh m fun s' => K (.val (.sl s')) L h)
  | _, _, _, _, _ => False) :
  Out P μ0 h0 w0 μ lam w (Instr.sliceAt t (a.eval x) (lo.map a.eval) (hi.map a.eval) (mx.map a.eval)) K := by
 split at hk
 ·rename_i e s l hh m hu hx hl hhh hm
  obtain ⟨h1, hk⟩ := need_elim hk
  simp [Option.isSome_iff_exists] at h1
  obtain ⟨⟨ei, hei⟩, h2⟩ := h1
  have h2' : m.isSome → hh.isSome := by cases m <;> cases hh <;> simp_all
  cases s with
  | none =>
   obtain ⟨g1, g2, g3, hk⟩ := hk
   have hv : a.eval x = _ := E.val hx
   have hb := run_sliceBounds (P := P) (w := w) (isSlice := true) (len := 0) (cap := 0) (optI_some E hl) (optI_some E hhh) (optI_some E hm) h2' (by omega)
    (by cases hh <;> simp_all) (by cases hh <;> cases m <;> simp_all) (by cases m <;> simp_all)
   refine Out.same R (v := .slice none 0 0) ?_ hk rfl
   rw [hv]
   unfold Instr.sliceAt
   rw [Sem.run_bind, run_underlying hu]
   simp only [Result.andThen_ok]
   unfold Instr.slice
   rw [Sem.run_bind, run_underlying hu]
   simp only [Result.andThen_ok]
   rw [Sem.run_bind, hb]
   simp only [Result.andThen_ok, Sem.run_bind, run_sizeOf' hei, Sem.run_pure]
   have e1 : (l.getD 0).toNat = 0 := by omega
   have e2 : (hh.getD ((0 : Nat) : Int)).toNat = 0 := by cases hh <;> simp_all
   have e3 : (m.getD ((0 : Nat) : Int)).toNat = 0 := by cases m <;> simp_all
   rw [e1, e2, e3]
   simp
  | some s =>
   obtain ⟨m', c', q, hmm, hv, hlc, hq, hx1, hx2⟩ := E.val hx
   obtain ⟨l', h', m2, s', g1, g2, g3⟩ := out_cut (P := P) R hmm hlc hq hx1 hx2 (isS := true) (optI_some E hl) (optI_some E hhh) (optI_some E hm) h2' hk
   refine Out.same R ?_ g2 g3
   rw [hv]
   unfold Instr.sliceAt
   rw [Sem.run_bind, run_underlying hu]
   simp only [Result.andThen_ok]
   unfold Instr.slice
   rw [Sem.run_bind, run_underlying hu]
   simp only [Result.andThen_ok]
   rw [Sem.run_bind, g1]
   simp only [Result.andThen_ok, Sem.run_bind, run_sizeOf' hei, Sem.run_pure]
 ·rename_i s l hh hu hx hl hhh hm
  obtain ⟨g1, g2, g3, hk⟩ := hk
  have hv : a.eval x = _ := E.val hx
  have hm0 : mx = none := by
   cases mx with
   | none => rfl
   | some y => simp [optI] at hm
  subst hm0
  have hb := run_sliceBounds (P := P) (w := w) (isSlice := false) (len := s.length) (cap := s.length) (m := none) (mx := none) (optI_some E hl) (optI_some E hhh) (.inl ⟨rfl, rfl⟩) (by simp) g1 g2 (by simpa using g3) (by simp)
  refine Out.same R (v := .string ((⟨s.toArray⟩ : ByteArray).extract (l.getD 0).toNat (hh.getD s.length).toNat)) ?_ hk ?_
  ·rw [hv]
   unfold Instr.sliceAt
   rw [Sem.run_bind, run_underlying hu]
   simp only [Result.andThen_ok]
   unfold Instr.slice
   rw [Sem.run_bind, run_underlying hu]
   simp only [Result.andThen_ok, Option.map_none, Option.isSome_none, Bool.false_eq_true, if_false]
   have hsz : (⟨s.toArray⟩ : ByteArray).size = s.length := by simp [ByteArray.size]
   rw [hsz, Sem.run_bind, hb]
   simp
  ·show Value.string _ = Value.string _
   congr 1
   apply ByteArray.ext
   apply Array.ext'
   simp [ByteArray.data_extract, Array.toList_extract, List.extract_eq_drop_take']
 ·rename_i n e q l hh m hu hx hl hhh hm
  cases q with
  | none => exact hk.elim
  | some p =>
   simp only [vPtr] at hk
   obtain ⟨h1, hk⟩ := need_elim hk
   simp [Option.isSome_iff_exists] at h1
   obtain ⟨⟨ei, hei⟩, h2⟩ := h1
   have h2' : m.isSome → hh.isSome := by cases m <;> cases hh <;> simp_all
   obtain ⟨m', hmm, hv⟩ := E.val hx
   obtain ⟨l', h', m2, s', g1, g2, g3⟩ := out_cut (P := P) (s := ⟨p.b, p.o, n, n, 0⟩) (c' := n) (q := ⟨m'.r, m'.s + p.o, none⟩) R (.inl hmm) (Nat.le_refl _) (.inr rfl) (fun _ => rfl) (fun h => absurd rfl h) (isS := false) (optI_some E hl) (optI_some E hhh) (optI_some E hm) h2' hk
   refine Out.same R ?_ g2 g3
   rw [hv]
   unfold Instr.sliceAt
   rw [Sem.run_bind, run_underlying hu]
   simp only [Result.andThen_ok, Instr.sureAddr, Sem.run_bind, Sem.run_pure]
   rw [g1]
   simp only [Result.andThen_ok, Sem.run_bind, run_sizeOf' hei, Sem.run_pure]
   congr 2
   split <;> simp
 ·exact hk.elim
theorem madeCells_list (z : Array Value) (n : Nat) : (madeCells z (n * z.size)).toList = (List.replicate n z.toList).flatten := by
 unfold madeCells
 exact zeros_list z n
theorem out_make (R : Rel μ0 h0 w0 μ lam L h w) {t e : TypeId} (ht : telem P t = some e) {zs : List AV} (hz : zcells P e = some zs) (ho : oneAll zs = true) {kl kc : IntKind} {l c : Int} (hk : PMake zs (tbytes P e) l c h fun s' h' => K (.val (.sl s')) L h') :
  Out P μ0 h0 w0 μ lam w (Instr.makeSlice t (.int kl l) (.int kc c)) K := by
 have hu := telem_some ht
 obtain ⟨i, hi⟩ := zcells_info hz
 obtain ⟨zv, hzr, hzc, hzl⟩ := zcells_zero hz w μ
 have hzi : i.zero = some zv := by
  simp only [zeroValue, typeInfo, Sem.run_bind, run_program, Result.andThen_ok, hi, Sem.run_pure] at hzr
  cases hz' : i.zero with
  | none => simp [hz'] at hzr
  | some v => simp [hz'] at hzr; rw [hzr]
 have hsz : tsz P e = i.size := tsz_info hi
 have hby : tbytes P e = i.bytes := by simp [tbytes, Program.bytesOf, hi]
 have hzs : zv.cells.size = i.size := by have := hzc.length; simp at this; omega
 obtain ⟨g1, g2, g3, g4, hk⟩ := hk
 rw [hby] at g3
 have hrun := run_make (P := P) w t e i zv hu hi hzi kl kc l c g1 g2 (by rw [Int.mul_comm]; exact g3) (by simpa [maxI] using g4)
 have hcells : relL μ (List.replicate c.toNat zs).flatten (madeCells zv.cells (c.toNat * i.size)).toList := by
  rw [← hzs, madeCells_list]; exact relL.replicate hzc _
 have hl := hcells.length
 have hone : oneAll (List.replicate c.toNat zs).flatten = true := by
  simp only [oneAll, List.all_eq_true] at ho ⊢
  intro x hx
  simp at hx
  obtain ⟨_, ⟨_, rfl⟩, hx⟩ := hx
  exact ho x hx
 have hsize : (madeCells zv.cells (c.toNat * i.size)).size = (List.replicate c.toNat zs).flatten.length := by rw [← hl]; simp
 refine ⟨_, _, _, _, _, _, lam, hrun, hk, R.alloc _ _ e (by omega) hone (fun j x hx => ?_), Ren.le_append _ _, lamLe.refl _, ⟨w.heap.size, 0, (madeCells zv.cells (c.toNat * i.size)).size⟩, c.toNat, _, ?_, rfl, by simp only; omega, .inr rfl, fun _ => rfl, fun hne => absurd rfl hne⟩
 ·obtain ⟨y, hy, hxy⟩ := hcells.get hx
  exact ⟨y, by simpa using hy, hxy⟩
 ·simp [R.heap.len]
theorem isU8_some {e : TypeId} (h : isU8 P e = true) : P.underlying e = some (.int .u8) := by
 simp only [isU8] at h
 split at h
 ·assumption
 ·cases h
theorem relL_bytes {μ : Ren} : ∀ {l : List UInt8} {vs : List Value}, relL μ (byteAVs l) vs → vs = l.map fun b => Value.int .u8 b.toNat
 | [], vs, h => by simpa [byteAVs, relL] using h
 | b :: l, vs, h => by
  obtain ⟨y, ys, hl, hy, h'⟩ := h
  rw [hl]
  have e1 : y = _ := hy
  have := relL_bytes (l := l) h'
  rw [this, e1]; rfl
theorem relL_bytes_mk {μ : Ren} : ∀ (l : List UInt8), relL μ (byteAVs l) (l.map fun b => Value.int .u8 b.toNat)
 | [] => rfl
 | b :: l => ⟨_, _, rfl, rfl, relL_bytes_mk l⟩
theorem oneAll_bytes (l : List UInt8) : oneAll (byteAVs l) = true := by
 simp [oneAll, byteAVs, AV.one]
theorem slCells_rel (R : Rel μ0 h0 w0 μ lam L h w) {s : Option SL} {v : Value} (hv : AV.rel μ (.sl s) v) {n : Nat} (hn : n = 0 ∨ 0 < slLen s) {xs : List AV} (hx : slCells h s n = some xs) :
  ∃ a len cap vs, v = .slice a len cap ∧ len = slLen s ∧ vs.length = n ∧ relL μ xs vs ∧ oneAll xs = true ∧
   (∀ a', a = some a' → ∀ j u, vs[j]? = some u → w.cell? (a'.add j) = some u) ∧ (a = none → vs = []) := by
 cases s with
 | none =>
  simp only [slCells] at hx
  split at hx
  ·rename_i h0
   cases hx
   exact ⟨none, 0, 0, [], hv, rfl, h0.symm, rfl, rfl, by simp, fun _ => rfl⟩
  ·cases hx
 | some s =>
  simp only [slCells] at hx
  obtain ⟨m, c', q, hm, rfl, hlc, hq, hx1, hx2⟩ := hv
  obtain ⟨c, rw', e1, e2, e3⟩ := cellsAt_some hx
  simp only at e1 e2 e3
  by_cases hn0 : n = 0
  ·subst hn0
   have : xs = [] := by rw [e3]; simp
   subst this
   exact ⟨_, _, _, [], rfl, rfl, rfl, rfl, rfl, fun a' ha => by simp, fun h => by cases h⟩
  ·have hpos := hn.resolve_left hn0
   simp only [slLen] at hpos
   have hc0 : c' ≠ 0 := by
    by_cases ho : s.opn = 0
    ·rw [hx1 ho]; omega
    ·have := (hx2 ho).1; omega
   have hq' := hq.resolve_left hc0
   obtain ⟨C, t', fz, k1, k2, k3, ko, k4, k5⟩ := R.heap.blk _ _ m e1 (hm.resolve_right hc0)
   have hone : oneAll xs = true := by rw [e3]; exact oneAll_take (oneAll_drop ko _) _
   obtain ⟨vs, a1, a2, a3, _⟩ := cells_slice k1 k4 e2
   refine ⟨_, _, _, vs, rfl, rfl, a1, by rw [e3]; exact a2, hone, fun a' ha => ?_, fun h => by cases h⟩
   cases ha
   rw [hq']; exact a3
theorem foldl_push (l : List UInt8) (s : ByteArray) : ((l.map fun b => (b.toNat : Int)).foldl (fun r n => r.push (UInt8.ofNat n.toNat)) s) = ⟨s.data ++ l.toArray⟩ := by
 induction l generalizing s with
 | nil => simp
 | cons b l ih =>
  simp only [List.map_cons, List.foldl_cons, ih]
  congr 1
  simp [ByteArray.push]
theorem out_bytesToString (R : Rel μ0 h0 w0 μ lam L h w) {src dst e : TypeId} (hs : P.underlying src = some (.slice e)) (hd : P.underlying dst = some .string) (he : isU8 P e = true) {s : Option SL} {v : Value} (hv : AV.rel μ (.sl s) v)
  (hk : PStr h s fun l => K (.val (.str l)) L h) : Out P μ0 h0 w0 μ lam w (convert src dst v) K := by
 obtain ⟨l, hl, hk⟩ := hk
 obtain ⟨a, len, cap, vs, rfl, rfl, hvl, hr, _, ha, hn⟩ := slCells_rel R hv (by omega) hl
 have hvs := relL_bytes hr
 refine Out.same R (v := .string ⟨l.toArray⟩) ?_ hk rfl
 rw [run_convert_bytes_string w src dst e a _ _ hs (isU8_some he) hd]
 cases a with
 | none =>
  have := hn rfl
  rw [this] at hvs
  have hl0 : l = [] := by simpa using hvs.symm
  subst hl0
  rfl
 | some a =>
  have hc := ha a rfl
  have hload := run_loadCells_list (P := P) w a vs hc
  rw [hvl, hvs] at hload
  have := run_bytesToString (P := P) w a (slLen s) cap (l.map fun b => (b.toNat : Int)) (by rw [hload]; simp [Function.comp_def])
  rw [this, foldl_push]
  simp [ByteArray.empty, ByteArray.emptyWithCapacity]
  rfl
theorem freeze_eq {w : World} {r n : Nat} {C : Array Value} {t : TypeId} (hw : w.heap[r]? = some (.cells C t (0, 0))) : w.freeze ⟨r, n, none⟩ 1 = w.setBlk r (.cells C t (n, n + 1)) := by
 unfold World.freeze World.setBlk
 simp only [Nat.one_ne_zero, if_false]
 congr 1
 have hr := heap_lt hw
 have hg : w.heap[r] = .cells C t (0, 0) := by simpa [Array.getElem?_eq_getElem hr] using hw
 apply Array.ext_getElem?
 intro i
 rw [Array.getElem?_modify, Array.getElem?_setIfInBounds]
 by_cases hi : r = i
 ·subst hi
  simp [hr, hg]
 ·simp [hi]
theorem out_stringToBytes (R : Rel μ0 h0 w0 μ lam L h w) {src dst e : TypeId} (hs : P.underlying src = some .string) (hd : P.underlying dst = some (.slice e)) (he : isU8 P e = true) {s : List UInt8} (hle : s.length ≤ 4611686018427387904)
  (hk : K (.val (.sl (some ⟨h.length, 0, s.length, s.length, 1⟩))) L (h ++ [.cells (byteAVs s) false])) : Out P μ0 h0 w0 μ lam w (convert src dst (.string ⟨s.toArray⟩)) K := by
 have he' := isU8_some he
 have hsz : (⟨s.toArray⟩ : ByteArray).size = s.length := by simp [ByteArray.size]
 have hge := grownCap_ge w s.length 0 e
 generalize hC : ((⟨s.toArray⟩ : ByteArray).data.map fun b => Value.int .u8 b.toNat) ++ Array.replicate (grownCap w s.length 0 e - s.length) (Value.int .u8 0) = C
 have hCsz : C.size = grownCap w s.length 0 e := by rw [← hC]; simp; omega
 have hblk := heap_push_new w.drew (.cells C e)
 have hrun : (convert src dst (.string ⟨s.toArray⟩)).run P w = .ok (.slice (some ⟨w.heap.size, 0, none⟩) s.length (grownCap w s.length 0 e)) ((w.drew.alloc (.cells C e)).setBlk w.heap.size (.cells C e (C.size, C.size + 1))) := by
  unfold convert
  rw [Sem.run_bind, run_underlying hs]
  simp only [Result.andThen_ok]
  rw [Sem.run_bind, run_underlying hd]
  simp only [Result.andThen_ok]
  rw [Sem.run_bind, run_underlying he']
  simp only [Result.andThen_ok]
  unfold Conv.stringToBytes
  rw [Sem.run_bind, run_choose]
  have hforce : (Question.appendCap (⟨s.toArray⟩ : ByteArray).size 0 e).forced = false := rfl
  rw [hsz] at *
  simp only [hforce, Bool.false_eq_true, if_false, Result.andThen_ok]
  show Sem.run P (do
   let a ← newRow e (((⟨s.toArray⟩ : ByteArray).data.map fun b => Value.int .u8 b.toNat) ++ Array.replicate (grownCap w s.length 0 e - s.length) (Value.int .u8 0))
   markStringish a
   pure (Value.slice (some a) s.length (grownCap w s.length 0 e)) : Sem Value) w.drew = _
  rw [hC]
  have hsh : (w.drew.alloc (.cells C e)).shape? w.heap.size = some (e, C.size) := by
   unfold World.shape?
   have : (w.drew.alloc (.cells C e)).heap[w.heap.size]? = some (.cells C e) := hblk
   rw [this]
  rw [Sem.run_bind]
  have h1 : (newRow e C).run P w.drew = .ok ⟨w.heap.size, 0, none⟩ (w.drew.alloc (.cells C e)) := by
   simp [newRow]
   rfl
  have h2 : (markStringish ⟨w.heap.size, 0, none⟩).run P (w.drew.alloc (.cells C e)) = .ok () ((w.drew.alloc (.cells C e)).setBlk w.heap.size (.cells C e (C.size, C.size + 1))) := by
   unfold markStringish
   rw [Sem.run_bind, run_shape]
   simp only [hsh, Result.andThen_ok, run_freeze]
   have hblk' : (w.drew.alloc (.cells C e)).heap[w.heap.size]? = some (.cells C e) := hblk
   rw [freeze_eq (C := C) (t := e) hblk']
  rw [h1]
  simp only [Result.andThen_ok, Sem.run_bind, h2, Sem.run_pure]
 have R1 : Rel μ0 h0 w0 μ lam L h (w.drew.alloc (.cells C e)) := (R.drawn (w' := w.drew) rfl rfl rfl rfl).extra _
 have hfree : ∀ (b : Nat) (B : Blk) (e' : ME), h[b]? = some B → B.live = true → μ[b]? = some e' → e'.r ≠ w.heap.size := fun b B e' _ _ he => by have := R.heap.bnd b e' he; omega
 have hloc : ∀ k : Nat, lam[k]? ≠ some w.heap.size := fun k hk => by have := (R.locs.new k _ hk).2; omega
 have R2 := R1.scratch w.heap.size (.cells C e (C.size, C.size + 1)) (.inl R.evo.size) hfree hloc
 have R3 := R2.adopt ⟨w.heap.size, 0, C.size⟩ (.cells (byteAVs s) false) (.inl R.evo.size) (by simp) (by
  refine ⟨C, e, _, setBlk_same _ _ _ (by simp), by simp, by simp [byteAVs]; omega, oneAll_bytes _, ?_, fun h => by cases h⟩
  intro i x hx
  obtain ⟨y, hy, hxy⟩ := (relL_bytes_mk (μ := μ ++ [⟨w.heap.size, 0, C.size⟩]) s).get hx
  refine ⟨y, ?_, hxy⟩
  have hlt := lt_of_get hy
  rw [← hC, Nat.zero_add, Array.getElem?_append_left (by simpa using hlt)]
  rw [← Array.getElem?_toList]
  simpa using hy) hfree hloc
 refine ⟨_, _, _, _, _, _, lam, hrun, hk, R3, Ren.le_append _ _, lamLe.refl _, ⟨w.heap.size, 0, C.size⟩, grownCap w s.length 0 e, _, ?_, rfl, Nat.le_refl _, .inr rfl, fun h => by simp at h, fun _ => ⟨hge, by simp [hCsz]⟩⟩
 simp [R.heap.len]
end
end Go.Ab
