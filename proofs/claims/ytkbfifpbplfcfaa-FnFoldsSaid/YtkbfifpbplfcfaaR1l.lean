/- FnFolds answers yes for every function and all records, and leaves them as they were. -/
import Derived.Test.YtkbfifpbplfcfaaR1k
import Derived.Deep.Slices
namespace Go.Proofs.Ytkbfifpbplfcfaa
open Go.Ab
open Go.ChangeShapes Go.WideShapes Go.ChangeAt Go.RowKit
set_option linter.unusedVariables false

theorem all_get : ∀ {l : List (Int × Int)} {j : Nat} {x : AV}, (recE.all l)[j]? = some x → ∃ r, l[j / 2]? = some r ∧ x = .int .i64 (if j % 2 = 0 then r.1 else r.2)
  | [], j, x, h => by simp [Enc.all] at h
  | r :: l, 0, x, h => by
    have h : some (AV.int .i64 r.1) = some x := h
    cases h; exact ⟨r, rfl, rfl⟩
  | r :: l, 1, x, h => by
    have h : some (AV.int .i64 r.2) = some x := h
    cases h; exact ⟨r, rfl, rfl⟩
  | r :: l, j + 2, x, h => by
    have h : (recE.all l)[j]? = some x := h
    obtain ⟨r', h1, h2⟩ := all_get h
    have e1 : (j + 2) / 2 = j / 2 + 1 := by omega
    have e2 : (j + 2) % 2 = j % 2 := by omega
    exact ⟨r', by rw [e1]; simpa using h1, by rw [e2]; exact h2⟩

/-- A slice of records that came in stands for a list, over a heap that nobody may write. -/
theorem recs_in {H : Type} {enc : TypeId × Value → H} {P : Program} {W : World} {t e : TypeId} {f0 f1 : Field} {v : Value} {d : DataW H} {p : List MemPlace} {base : Nat} (ht : P.underlying t = some (.slice e)) (he : P.underlying e = some (.struct #[f0, f1]))
    (hone : Deep.oneCellFields P #[f0, f1] = true) (hC : P.cellsOf e = 2) (h0 : P.underlying f0.type = some (.int .i64)) (h1 : P.underlying f1.type = some (.int .i64)) (hv : Value.okWide P W .any base t v)
    (h : DataW.Trod enc P W 0 (fun _ => true) true t v d p) :
    ∃ (μ : Ren) (hp : Heap) (q : Option SL) (l : List (Int × Int)), HRel μ hp W ∧ (AV.sl q).rel μ v ∧ HasL recE hp q l ∧ ∀ (b : Nat) (B : Blk), hp[b]? = some B → B.rw = false := by
  obtain ⟨a0, len, cap, rfl⟩ := okWide_slice ht hv
  obtain ⟨fuel, hf⟩ := h
  rcases Deep.open_slice ht hf with ⟨hcs, _⟩ | ⟨a, len', cap', m, n, D, Pl, hcs, _, hlc, hm, hmm, _, hx⟩
  · simp [Value.cells] at hcs
    obtain ⟨rfl, rfl, rfl⟩ := hcs
    exact ⟨[], [], none, [], hrel_nil W, rfl, rfl, by simp⟩
  · simp [Value.cells] at hcs
    obtain ⟨rfl, rfl, rfl⟩ := hcs
    simp only [if_true] at hmm
    subst hmm
    have hh : len ≤ m ∧ (m : Int) ≤ IntKind.i64.max ∧ W.has P .any base a e m := by simpa [Value.okWide, ht, Cell.okWide, Cell.ok] using hv
    obtain ⟨_, _, _, hspot, row, cells, hsh, _⟩ := hh
    have hblk : ∃ C tt fz, W.heap[a.block]? = some (.cells C tt fz) := by
      unfold World.shape? at hsh
      split at hsh
      · rename_i C tt fz hb; exact ⟨C, tt, fz, hb⟩
      · cases hsh
    obtain ⟨C, tt, fz, hb⟩ := hblk
    obtain ⟨ab, ao, asp⟩ := a
    simp only at hspot hb
    subst hspot
    have each : ∀ i, i < m → ∃ r : Int × Int, C[ao + i * 2]? = some (.int .i64 r.1) ∧ C[ao + i * 2 + 1]? = some (.int .i64 r.2) := by
      intro i hi
      obtain ⟨cs', hcl, htr⟩ := hx i hi
      rw [hC] at hcl
      obtain ⟨_, hlen, hcell⟩ := World.cells?_some hcl
      match cs', hlen with
      | [c0, c1], _ =>
        cases n with
        | zero => simp [DataW.trod] at htr
        | succ n =>
          obtain ⟨y0, y1, n', hx', _, hy0, hy1⟩ := trod_struct2 he htr
          obtain ⟨o0, k0⟩ := Deep.hone_of hone 0 f0 rfl
          obtain ⟨o1, k1⟩ := Deep.hone_of hone 1 f1 rfl
          have hy0 : DataW.trod enc P W 0 (fun _ => true) true n' f0.type [c0] = some y0 := by simpa [o0, k0] using hy0
          have hy1 : DataW.trod enc P W 0 (fun _ => true) true n' f1.type [c1] = some y1 := by simpa [o1, k1] using hy1
          obtain ⟨x0, e0, _, _⟩ := DataW.trod_int h0 hy0
          obtain ⟨x1, e1, _, _⟩ := DataW.trod_int h1 hy1
          simp at e0 e1
          subst e0 e1
          have g : ∀ k, k < 2 → C[ao + i * 2 + k]? = [Value.int .i64 x0, .int .i64 x1][k]? := by
            intro k hk
            have := hcell k hk
            unfold World.cell? at this
            have eb : ((Addr.add (Addr.add ⟨ab, ao, none⟩ (i * 2)) k)) = ⟨ab, ao + i * 2 + k, none⟩ := by
              unfold Addr.add
              split <;> split <;> simp_all
            rw [eb] at this
            simp only [hb] at this
            simpa using this
          exact ⟨(x0, x1), by simpa using g 0 (by omega), by simpa using g 1 (by omega)⟩
    obtain ⟨V, hV⟩ := Deep.choose_lt (α := Int × Int) (p := fun i r => C[ao + i * 2]? = some (.int .i64 r.1) ∧ C[ao + i * 2 + 1]? = some (.int .i64 r.2)) each
    have hbl : ab < W.heap.size := (Array.getElem?_eq_some_iff.1 hb).1
    generalize hl : (List.range len).map V = l
    have hll : l.length = len := by subst hl; simp
    have hget : ∀ i r, l[i]? = some r → i < len ∧ r = V i := by
      intro i r hr
      subst hl
      have := lt_of_get hr
      simp at this hr
      obtain ⟨a', ha', rfl⟩ := hr
      rw [List.getElem?_range this] at ha'
      cases ha'
      exact ⟨this, rfl⟩
    have hsz : len = 0 ∨ ao + len * 2 ≤ C.size := by
      rcases Nat.eq_zero_or_pos len with hz | hz
      · exact .inl hz
      · have := (hV (len - 1) (by omega)).2
        have := (Array.getElem?_eq_some_iff.1 this).1
        exact .inr (by omega)
    by_cases hcap : m = 0
    · have hlen0 : len = 0 := by omega
      have hnil : l = [] := List.eq_nil_of_length_eq_zero (by omega)
      subst hnil
      refine ⟨[⟨ab, 0, C.size⟩], [.cells [] false], some ⟨0, 0, len, m, 0⟩, [], ⟨rfl, ?_, ?_, ?_⟩, ?_, ?_, ?_⟩
      · intro b B e' hB he'
        cases b with
        | zero => simp at hB he'; subst hB he'; exact ⟨C, tt, fz, hb, by simp, by simp, rfl, by simp, by simp⟩
        | succ b => simp at hB
      · intro b1 b2 B1 B2 e1 e2 hne h1 h2
        cases b1 <;> cases b2 <;> simp at h1 h2 hne
      · intro b e' he'
        cases b with
        | zero => simp at he'; subst he'; exact hbl
        | succ b => simp at he'
      · exact ⟨⟨ab, 0, C.size⟩, m, ao, rfl, rfl, hlc, .inl hcap, fun _ => rfl, fun hn => absurd rfl hn⟩
      · exact ⟨by simpa using hlen0, hlc, .inl rfl, by simp [cellsAt, Enc.all]⟩
      · intro b B hB
        cases b with
        | zero => simp at hB; subst hB; rfl
        | succ b => simp at hB
    · have haoC : ao ≤ C.size := by
        have := (hV 0 (by omega)).1
        have := (Array.getElem?_eq_some_iff.1 this).1
        omega
      refine ⟨[⟨ab, ao, C.size - ao⟩], [.cells (recE.all l) false], some ⟨0, 0, len, m, 0⟩, l, ⟨rfl, ?_, ?_, ?_⟩, ?_, ?_, ?_⟩
      · intro b B e' hB he'
        cases b with
        | zero =>
          simp at hB he'
          subst hB he'
          refine ⟨C, tt, fz, hb, by simp; omega, by simp only [Enc.all_length, hll, recE]; omega, ?_, ?_, by simp⟩
          · simp only [oneAll, List.all_eq_true]
            intro x hx'
            obtain ⟨j, hj⟩ := List.mem_iff_getElem?.1 hx'
            obtain ⟨r, _, rfl⟩ := all_get hj
            rfl
          · intro j x hj
            obtain ⟨r, hr, rfl⟩ := all_get hj
            obtain ⟨hi, rfl⟩ := hget _ _ hr
            have := hV (j / 2) (by omega)
            refine ⟨.int .i64 (if j % 2 = 0 then (V (j / 2)).1 else (V (j / 2)).2), ?_, rfl⟩
            split
            · have e1 : ao + j = ao + j / 2 * 2 := by omega
              rw [e1]; exact this.1
            · have e1 : ao + j = ao + j / 2 * 2 + 1 := by omega
              rw [e1]; exact this.2
        | succ b => simp at hB
      · intro b1 b2 B1 B2 e1 e2 hne h1 h2
        cases b1 <;> cases b2 <;> simp at h1 h2 hne
      · intro b e' he'
        cases b with
        | zero => simp at he'; subst he'; exact hbl
        | succ b => simp at he'
      · exact ⟨⟨ab, ao, C.size - ao⟩, m, ao, rfl, rfl, hlc, .inr rfl, fun _ => rfl, fun hn => absurd rfl hn⟩
      · refine ⟨hll.symm, hlc, .inl rfl, ?_⟩
        rw [cellsAt_mk (C := recE.all l) (rw' := false) rfl (by simp [Enc.all_length])]
        simp [← Enc.all_length]
      · intro b B hB
        cases b with
        | zero => simp at hB; subst hB; rfl
        | succ b => simp at hB

set_option maxRecDepth 100000 in
theorem folds_lifted (os : Os) (started : os.Started) (H : Type) (enc : TypeId × Value → H) :
    ReturnsInHanded {} Try.checked os 6 .any (Rows.fnFoldsSpec.pre6 enc Try.prog Try.f6 Rows.fnFoldsRow.domain false) (Rows.fnFoldsSpec.post enc Try.prog Try.f6 false true false false) := by
  refine returnsInHanded_of_change (C := Try.checked) own started (by kernel_rfl) Try.func6
    (ChangeSpec.witness6 (enc := enc) (C := Try.checked) false ⟨#[], #[.agg #[.int .i64 0, .int .i64 0], .slice none 0 0], []⟩ 8 (by kernel_rfl) (by kernel_rfl) (by kernel_rfl) (by kernel_rfl)) ?_
  intro W base args ds gs before hval0 hW _ _
  have hval : ∀ (j : Nat) t v, Try.f6.params[j]? = some t → args[j]? = some v → Value.okWide Try.prog W .any base t v := hval0
  have hW' := hW
  obtain ⟨p, q, hA0, hV, rfl, hfz, hnd⟩ := hW
  have hA : DataW.TrodAll enc Try.prog W 0 (fun _ => true) true Try.f6.params.toList args.toList ds p := hA0
  rw [Try.params6] at hA hval
  obtain ⟨v0, v1, d0, d1, p0, p1, rfl, rfl, rfl, h0, h1⟩ := trodAll_two hA
  obtain ⟨rfl, rfl⟩ := trodVars_none hV
  obtain ⟨a, b, rfl, wa, wb, rfl, rfl⟩ := open_two Try.underlying23 (by kernel_rfl) cells23 Try.underlying3 Try.underlying3 (hval 0 23 v0 rfl rfl) h0
  obtain ⟨μ, hp, sq, l, hh, hrel, hl, hro⟩ := recs_in Try.underlying38 Try.underlying25 (by kernel_rfl) cells25 Try.underlying3 Try.underlying3 (hval 1 38 v1 rfl rfl) h1
  clear hA0 hval0
  refine (calls_of_AC (s6 (k := a) (a := b) hl) hh ⟨_, _, rfl, ⟨_, rfl, ⟨_, _, rfl, rfl, ⟨_, _, rfl, rfl, rfl⟩⟩⟩, ⟨_, _, rfl, hrel, rfl⟩⟩ hro).mono fun e W' ⟨he, hb⟩ => ?_
  exact ⟨_, he, post_yes hW' rfl rfl (by kernel_rfl) Try.underlying4 (by kernel_rfl) hb⟩

theorem folds_holds : Rows.FnFoldsSaid :=
  OpenClaim.holds_of_wide 6 Try.f6 rfl rfl rfl rfl rfl rfl rfl ⟨rfl, rfl, rfl, rfl, rfl⟩ rfl rfl rfl rfl rfl (by kernel_rfl) Try.func6 (by kernel_rfl)
    (of_decide_eq_true (by kernel_rfl)) (by unfold Func.isWrapper; first | (rw [if_pos (by decide +kernel)]; kernel_rfl) | (rw [if_neg (by decide +kernel)]; exact ⟨rfl, rfl⟩))
    (fun os started H enc _ => folds_lifted os started H enc)
end Go.Proofs.Ytkbfifpbplfcfaa
