/- Arguments opened by their cells; what nobody looks at lies in dead blocks. -/
import Derived.Test.YtceplmmmlindnaaCAb22
namespace Go.Ab
open Go.ChangeShapes Go.WideShapes Go.ChangeAt Go.RowKit
set_option linter.unusedSimpArgs false
set_option linter.unusedVariables false

section
variable {P : Program} {W : World} {r : Reach} {base : Nat}

theorem row_cells {t : TypeId} {v : Value} {ts : List TypeId} {d : TypeDesc} (hu : P.underlying t = some d) (hs : (∃ fs, d = .struct fs) ∨ ∃ n e, d = .array n e) (hv : Value.okWide P W r base t v) (hts : P.cellTypes P.depth t = some ts) (hsz : P.cellsOf t = ts.length) :
    ∃ cs : List Value, v = .agg ⟨cs⟩ ∧ cs.length = ts.length ∧ ∀ (i : Nat) (u : TypeId), ts[i]? = some u → ∃ x, cs[i]? = some x ∧ Cell.okWide P W r base u x := by
  have hv' : ∃ cs : Array Value, v = .agg cs ∧ cs.size = P.cellsOf t ∧ Row.okWide P W r base t cs := by
    unfold Value.okWide at hv
    rw [hu] at hv
    rcases hs with ⟨fs, rfl⟩ | ⟨n, e, rfl⟩ <;> exact hv
  obtain ⟨cs, rfl, h1, ts', h2, h3, h4⟩ := hv'
  rw [hts] at h2; cases h2
  refine ⟨cs.toList, rfl, by simpa using h1.trans hsz, fun i u hi => ?_⟩
  have hlt := lt_of_get hi
  have hx : cs[i]? = some cs[i] := by simp
  obtain ⟨u', h5, h6⟩ := h4 i _ hx
  rw [Nat.mod_eq_of_lt hlt, hi] at h5
  cases h5
  exact ⟨_, by simp, h6⟩

theorem cell_int {u : TypeId} {k : IntKind} {x : Value} (hu : P.underlying u = some (.int k)) (h : Cell.okWide P W r base u x) : ∃ n, x = .int k n := by
  unfold Cell.okWide at h
  rw [hu] at h
  simp only [Cell.ok, hu] at h
  cases x <;> simp at h
  exact ⟨_, by rw [h.1]⟩
theorem cell_str {u : TypeId} {x : Value} (hu : P.underlying u = some .string) (h : Cell.okWide P W r base u x) : ∃ s : List UInt8, x = .string ⟨s.toArray⟩ := by
  unfold Cell.okWide at h
  rw [hu] at h
  simp only [Cell.ok, hu] at h
  cases x <;> simp at h
  rename_i s
  exact ⟨s.data.toList, by simp⟩
theorem cell_slice {u e : TypeId} {x : Value} (hu : P.underlying u = some (.slice e)) (h : Cell.okWide P W r base u x) : x = .slice none 0 0 ∨ ∃ b o len cap, x = .slice (some ⟨b, o, none⟩) len cap ∧ len ≤ cap ∧ b < W.heap.size := by
  unfold Cell.okWide at h
  rw [hu] at h
  cases x
  case slice a len cap =>
    simp only [Cell.ok, hu] at h
    cases a with
    | none =>
      left
      split at h <;> simp_all
    | some a =>
      right
      simp only at h
      obtain ⟨h1, _, _, h2, row, cells, h3, _⟩ := h
      obtain ⟨b, o, sp⟩ := a
      simp only at h2 h3
      subst h2
      refine ⟨b, o, len, cap, rfl, h1, ?_⟩
      unfold World.shape? at h3
      split at h3
      · rename_i hb; exact heap_lt hb
      · cases h3
  all_goals simp [Cell.ok, hu] at h

/-- A slice that nobody looks at. -/
theorem dead_slice {u e : TypeId} {x : Value} (hu : P.underlying u = some (.slice e)) (h : Cell.okWide P W r base u x) (n : Nat) :
    ∃ (q : Option SL) (l : List ME), l.length ≤ 1 ∧ (∀ e ∈ l, e.r < W.heap.size) ∧ ∀ μ : Ren, μ.length = n → ∀ μ' : Ren, Ren.le (μ ++ l) μ' → AV.rel μ' (.sl q) x := by
  rcases cell_slice hu h with rfl | ⟨b, o, len, cap, rfl, h1, h2⟩
  · exact ⟨none, [], by simp, by simp, fun _ _ _ _ => rfl⟩
  · refine ⟨some ⟨n, 0, len, cap, 0⟩, [⟨b, o, 0⟩], by simp, by simpa using h2, fun μ hμ μ' hle => ?_⟩
    refine ⟨⟨b, o, 0⟩, cap, ⟨b, o, none⟩, .inl (hle _ _ (by rw [← hμ]; simp)), rfl, h1, .inr rfl, fun _ => rfl, fun h => absurd rfl h⟩

theorem hrel_dead {μ : Ren} (hb : ∀ e ∈ μ, e.r < W.heap.size) : HRel μ (List.replicate μ.length .dead) W := by
  refine ⟨by simp, ?_, ?_, ?_⟩
  · intro b B e h1 h2
    have := List.eq_of_mem_replicate (List.mem_of_getElem? h1)
    subst this; trivial
  · intro b1 b2 B1 B2 e1 e2 hne h1 h2 h3
    have := List.eq_of_mem_replicate (List.mem_of_getElem? h1)
    subst this; cases h3
  · intro b e h; exact hb e (List.mem_of_getElem? h)
theorem dead_ro {n : Nat} : ∀ (b : Nat) (B : Blk), (List.replicate n Blk.dead)[b]? = some B → B.rw = false := by
  intro b B h
  have := List.eq_of_mem_replicate (List.mem_of_getElem? h)
  subst this; rfl
end

/-- A triple over nothing that hands back no place holds over whatever lies there. -/
theorem AC_frame {P : Program} {f : FuncId} {args : List AV} {h : Heap} {v : AV} {Q : AV → Heap → Prop} (H : AC P f args [] fun x _ => x = v) (ha : ∀ (μ : Ren) (vs : List Value), relL μ args vs → relL [] args vs) (hv : ∀ (μ μ' : Ren) (x : Value), v.rel μ x → v.rel μ' x) (hq : Q v h) : AC P f args h Q := by
  refine ⟨H.1, fun μ w vs hh hx => ?_⟩
  have := H.2 [] w vs (hrel_nil w) (ha μ vs hx)
  refine this.mono fun e w' ⟨x, y, h', μ', he, hy, ev, _, hr⟩ => ?_
  subst hy
  have hB : ∀ k, k < w.heap.size → w'.heap[k]? = w.heap[k]? := fun k hk => ev.frame k hk (by simp)
  refine ⟨x, y, h, μ, he, hq, ⟨.refl _, Nat.le_refl _, ev.size, fun k hk _ => hB k hk, fun b B e hb hrw he => .inr ⟨b, B, e, hb, hrw, he, rfl⟩, fun b B e hb hrw he => .inr ⟨b, B, e, hb, hrw, he, rfl⟩, ev.os, ev.tape, ev.output⟩, ?_, hv _ _ _ hr⟩
  exact ⟨hh.len, fun b B e hb he => (hh.blk b B e hb he).world (hB _ (hh.bnd b e he)), hh.sep, fun b e he => Nat.lt_of_lt_of_le (hh.bnd b e he) ev.size⟩
end Go.Ab
