import Derived.Test.YtafmabnolelknaaGreatDoorEG3
import Derived.Laws.BytesString
import Derived.Laws.MakeOwn
namespace Go.Ab
set_option linter.unusedSimpArgs false
set_option linter.unusedVariables false
section
variable {P : Program} {μ0 : Ren} {h0 : Heap} {w0 : World} {μ : Ren} {lam : List Nat} {L : Locs} {h : Heap} {w : World} {K : KO}
theorem cut_rel {sz : Nat} {m : ME} {s : SL} {c' : Nat} {q : Addr} {l hh mm : Nat} {mx : Bool} (hm : μ[s.b]? = some m ∨ c' = 0) (hq : c' = 0 ∨ q = ⟨m.r, m.s + s.o, none⟩) (hx1 : s.opn = 0 → c' = s.cap) (hx2 : s.opn ≠ 0 → s.cap ≤ c' ∧ s.o + c' * s.opn ≤ m.n)
  (ho : s.opn = 0 ∨ s.opn = sz) (h1 : l ≤ hh) (h2 : hh ≤ mm) (h3 : mm ≤ s.cap) (hmm : mx = true → mm = s.cap) :
  AV.rel μ (.sl (some ⟨s.b, s.o + l * sz, hh - l, mm - l, if mx then s.opn else 0⟩))
   (.slice (if (if mx then c' else mm) = l then some q else (some (q : Addr)).map (·.add (l * sz))) (hh - l) ((if mx then c' else mm) - l)) := by
 have hcap : s.cap ≤ c' := by
  by_cases ho' : s.opn = 0
  ·rw [hx1 ho']; omega
  ·exact (hx2 ho').1
 have haddr : ∃ q', (if (if mx then c' else mm) = l then some (q : Addr) else (some (q : Addr)).map (·.add (l * sz))) = some q' ∧
   ((if mx then c' else mm) - l = 0 ∨ q' = ⟨m.r, m.s + (s.o + l * sz), none⟩) := by
  by_cases hc : (if mx then c' else mm) = l
  ·exact ⟨q, by rw [if_pos hc], .inl (by omega)⟩
  ·refine ⟨q.add (l * sz), by rw [if_neg hc]; rfl, ?_⟩
   rcases hq with hq | hq
   ·left
    cases mx <;> simp at hc ⊢ <;> omega
   ·right; rw [hq, add_addr, Nat.add_assoc]
 obtain ⟨q', ha, hq'⟩ := haddr
 rw [ha]
 refine ⟨m, _, q', ?_, rfl, by simp only; omega, hq', ?_, ?_⟩
 ·rcases hm with hm | hm
  ·exact .inl hm
  ·right; cases mx <;> simp <;> omega
 ·intro hop
  cases mx
  ·simp
  ·simp at hop
   have := hmm rfl
   simp [hx1 hop, this]
 ·intro hop
  cases mx
  ·simp at hop
  ·simp only [if_true] at hop ⊢
   have := hmm rfl
   obtain ⟨g1, g2⟩ := hx2 hop
   have ho' := ho.resolve_left hop
   refine ⟨by omega, ?_⟩
   rw [← ho']
   have hl : l ≤ c' := by omega
   have : (c' - l) * s.opn + l * s.opn = c' * s.opn := by rw [← Nat.add_mul]; congr 1; omega
   omega
theorem int_nat {a : Int} (h : 0 ≤ a) : ∃ n : Nat, a = n := ⟨a.toNat, (Int.toNat_of_nonneg h).symm⟩
theorem out_cut (R : Rel μ0 h0 w0 μ lam L h w) {sz : Nat} {s : SL} {m : ME} {c' : Nat} {q : Addr} (hm : μ[s.b]? = some m ∨ c' = 0) (hlc : s.len ≤ s.cap) (hq : c' = 0 ∨ q = ⟨m.r, m.s + s.o, none⟩) (hx1 : s.opn = 0 → c' = s.cap)
  (hx2 : s.opn ≠ 0 → s.cap ≤ c' ∧ s.o + c' * s.opn ≤ m.n) {isS : Bool} {lo hi mx : Option Value} {l hh mm : Option Int}
  (hl : (l = none ∧ lo = none) ∨ ∃ i k, l = some i ∧ lo = some (.int k i)) (hhh : (hh = none ∧ hi = none) ∨ ∃ i k, hh = some i ∧ hi = some (.int k i))
  (hmm : (mm = none ∧ mx = none) ∨ ∃ i k, mm = some i ∧ mx = some (.int k i)) (hmh : mm.isSome → hh.isSome) {KS : Option SL → Prop} (hk : PSlice sz (some s) (l.getD 0) hh mm KS) :
  ∃ l' h' m' s', (Instr.sliceBounds isS s.len c' lo hi mx).run P w = .ok (l', h', m') w ∧ KS (some s') ∧
   AV.rel μ (.sl (some s')) (.slice (if m' = l' then some q else (some (q : Addr)).map (·.add (l' * sz))) (h' - l') (m' - l')) := by
 obtain ⟨ho, g1, g2, g3, g4, hk⟩ := hk
 have hcap : s.cap ≤ c' := by
  by_cases ho' : s.opn = 0
  ·rw [hx1 ho']; omega
  ·exact (hx2 ho').1
 have hb1 : hh.getD s.len ≤ mm.getD (c' : Int) := by
  cases mm with
  | none => simp at g3 ⊢; omega
  | some x => simpa using g3
 have hb2 : mm.getD (c' : Int) ≤ c' := by
  cases mm with
  | none => simp
  | some x => simp at g4 ⊢; omega
 have hrun := run_sliceBounds (P := P) (w := w) (isSlice := isS) (len := s.len) (cap := c') hl hhh hmm hmh g1 g2 hb1 hb2
 obtain ⟨ln, hln⟩ := int_nat g1
 obtain ⟨hn, hhn⟩ := int_nat (show 0 ≤ hh.getD (s.len : Int) by omega)
 refine ⟨_, _, _, _, hrun, hk, ?_⟩
 rw [hln, hhn]
 cases mm with
 | none =>
  simp only [Option.getD_none] at g3 g4 ⊢
  have := cut_rel (sz := sz) (mx := true) (mm := s.cap) (l := ln) (hh := hn) hm hq hx1 hx2 ho (by omega) (by omega) (by omega) (fun _ => rfl)
  simp only [if_true, Option.isNone_none] at this ⊢
  simp only [Int.toNat_natCast] at this ⊢
  rw [show ((hn : Int) - (ln : Int)).toNat = hn - ln by omega, show ((s.cap : Int) - (ln : Int)).toNat = s.cap - ln by omega]
  exact this
 | some x =>
  simp only [Option.getD_some] at g3 g4 ⊢
  obtain ⟨xn, hxn⟩ := int_nat (show 0 ≤ x by omega)
  subst hxn
  have := cut_rel (sz := sz) (mx := false) (mm := xn) (l := ln) (hh := hn) hm hq hx1 hx2 ho (by omega) (by omega) (by omega) (fun h => by cases h)
  simp only [Option.isNone_some, Bool.false_eq_true, if_false] at this ⊢
  simp only [Int.toNat_natCast] at this ⊢
  rw [show ((hn : Int) - (ln : Int)).toNat = hn - ln by omega, show ((xn : Int) - (ln : Int)).toNat = xn - ln by omega]
  exact this
theorem out_slice (R : Rel μ0 h0 w0 μ lam L h w) {ρ : List LV} {a : Act} (E : EnvRel μ lam ρ a.tmps) {t : TypeId} {x : Operand} {lo hi mx : Option Operand}
  (hk : match P.underlying t, ev ρ x, optI ρ lo, optI ρ hi, optI ρ mx with
  | some (.slice e), .val (.sl s), some l, some hh, some m => need ((P.info? e).isSome && (m.isNone || hh.isSome)) (PSlice (tsz P e) s (l.getD 0) hh m fun s' => K (.val (.sl s')) L h)
  | some .string, .val (.str s), some l, some hh, some none => strSlice s (l.getD 0) hh fun s' => K (.val (.str s')) L h
  | some (.array n e), .val (.ptr q), some l, some hh, some m => vPtr q fun p => need ((P.info? e).isSome && (m.isNone || hh.isSome)) (PSlice (tsz P e) (some ⟨p.b, p.o, n, n, 0⟩) (l.getD 0) hh m fun s' => K (.val (.sl s')) L h)
  | _, _, _, _, _ => False) :
  Out P μ0 h0 w0 μ lam w (Instr.sliceAt t (a.eval x) (lo.map a.eval) (hi.map a.eval) (mx.map a.eval)) K := by
 split at hk
 ·rename_i e s l hh m hu hx hl hhh hm
  obtain ⟨h1, hk⟩ := need_elim hk
  simp [Option.isSome_iff_exists] at h1
  obtain ⟨⟨ei, hei⟩, h2⟩ := h1
  have h2' : m.isSome → hh.isSome := by cases m <;> cases hh <;> simp_all
  cases s with
  | none =>
   obtain ⟨g1, g2, g3, hk⟩ := hk
   have hv : a.eval x = _ := E.val hx
   have hb := run_sliceBounds (P := P) (w := w) (isSlice := true) (len := 0) (cap := 0) (optI_some E hl) (optI_some E hhh) (optI_some E hm) h2' (by omega)
    (by cases hh <;> simp_all) (by cases hh <;> cases m <;> simp_all) (by cases m <;> simp_all)
   refine Out.same R (v := .slice none 0 0) ?_ hk rfl
   rw [hv]
   unfold Instr.sliceAt
   rw [Sem.run_bind, run_underlying hu]
   simp only [Result.andThen_ok]
   unfold Instr.slice
   rw [Sem.run_bind, run_underlying hu]
   simp only [Result.andThen_ok]
   rw [Sem.run_bind, hb]
   simp only [Result.andThen_ok, Sem.run_bind, run_sizeOf' hei, Sem.run_pure]
   have e1 : (l.getD 0).toNat = 0 := by omega
   have e2 : (hh.getD ((0 : Nat) : Int)).toNat = 0 := by cases hh <;> simp_all
   have e3 : (m.getD ((0 : Nat) : Int)).toNat = 0 := by cases m <;> simp_all
   rw [e1, e2, e3]
   simp
  | some s =>
   obtain ⟨m', c', q, hmm, hv, hlc, hq, hx1, hx2⟩ := E.val hx
   obtain ⟨l', h', m2, s', g1, g2, g3⟩ := out_cut (P := P) R hmm hlc hq hx1 hx2 (isS := true) (optI_some E hl) (optI_some E hhh) (optI_some E hm) h2' hk
   refine Out.same R ?_ g2 g3
   rw [hv]
   unfold Instr.sliceAt
   rw [Sem.run_bind, run_underlying hu]
   simp only [Result.andThen_ok]
   unfold Instr.slice
   rw [Sem.run_bind, run_underlying hu]
   simp only [Result.andThen_ok]
   rw [Sem.run_bind, g1]
   simp only [Result.andThen_ok, Sem.run_bind, run_sizeOf' hei, Sem.run_pure]
 ·rename_i s l hh hu hx hl hhh hm
  obtain ⟨g1, g2, g3, hk⟩ := hk
  have hv : a.eval x = _ := E.val hx
  have hm0 : mx = none := by
   cases mx with
   | none => rfl
   | some y => simp [optI] at hm
  subst hm0
  have hb := run_sliceBounds (P := P) (w := w) (isSlice := false) (len := s.length) (cap := s.length) (m := none) (mx := none) (optI_some E hl) (optI_some E hhh) (.inl ⟨rfl, rfl⟩) (by simp) g1 g2 (by simpa using g3) (by simp)
  refine Out.same R (v := .string ((⟨s.toArray⟩ : ByteArray).extract (l.getD 0).toNat (hh.getD s.length).toNat)) ?_ hk ?_
  ·rw [hv]
   unfold Instr.sliceAt
   rw [Sem.run_bind, run_underlying hu]
   simp only [Result.andThen_ok]
   unfold Instr.slice
   rw [Sem.run_bind, run_underlying hu]
   simp only [Result.andThen_ok, Option.map_none, Option.isSome_none, Bool.false_eq_true, if_false]
   have hsz : (⟨s.toArray⟩ : ByteArray).size = s.length := by simp [ByteArray.size]
   rw [hsz, Sem.run_bind, hb]
   simp
  ·show Value.string _ = Value.string _
   congr 1
   apply ByteArray.ext
   apply Array.ext'
   simp [ByteArray.data_extract, Array.toList_extract, List.extract_eq_drop_take']
 ·rename_i n e q l hh m hu hx hl hhh hm
  cases q with
  | none => exact hk.elim
  | some p =>
   simp only [vPtr] at hk
   obtain ⟨h1, hk⟩ := need_elim hk
   simp [Option.isSome_iff_exists] at h1
   obtain ⟨⟨ei, hei⟩, h2⟩ := h1
   have h2' : m.isSome → hh.isSome := by cases m <;> cases hh <;> simp_all
   obtain ⟨m', hmm, hv⟩ := E.val hx
   obtain ⟨l', h', m2, s', g1, g2, g3⟩ := out_cut (P := P) (s := ⟨p.b, p.o, n, n, 0⟩) (c' := n) (q := ⟨m'.r, m'.s + p.o, none⟩) R (.inl hmm) (Nat.le_refl _) (.inr rfl) (fun _ => rfl) (fun h => absurd rfl h) (isS := false) (optI_some E hl) (optI_some E hhh) (optI_some E hm) h2' hk
   refine Out.same R ?_ g2 g3
   rw [hv]
   unfold Instr.sliceAt
   rw [Sem.run_bind, run_underlying hu]
   simp only [Result.andThen_ok, Instr.sureAddr, Sem.run_bind, Sem.run_pure]
   rw [g1]
   simp only [Result.andThen_ok, Sem.run_bind, run_sizeOf' hei, Sem.run_pure]
   congr 2
   split <;> simp
 ·exact hk.elim
theorem madeCells_list (z : Array Value) (n : Nat) : (madeCells z (n * z.size)).toList = (List.replicate n z.toList).flatten := by
 unfold madeCells
 exact zeros_list z n
theorem out_make (R : Rel μ0 h0 w0 μ lam L h w) {t e : TypeId} (ht : telem P t = some e) {zs : List AV} (hz : zcells P e = some zs) (ho : oneAll zs = true) {kl kc : IntKind} {l c : Int} (hk : PMake zs (tbytes P e) l c h fun s' h' => K (.val (.sl s')) L h') :
  Out P μ0 h0 w0 μ lam w (Instr.makeSlice t (.int kl l) (.int kc c)) K := by
 have hu := telem_some ht
 obtain ⟨i, hi⟩ := zcells_info hz
 obtain ⟨zv, hzr, hzc, hzl⟩ := zcells_zero hz w μ
 have hzi : i.zero = some zv := by
  simp only [zeroValue, typeInfo, Sem.run_bind, run_program, Result.andThen_ok, hi, Sem.run_pure] at hzr
  cases hz' : i.zero with
  | none => simp [hz'] at hzr
  | some v => simp [hz'] at hzr; rw [hzr]
 have hsz : tsz P e = i.size := tsz_info hi
 have hby : tbytes P e = i.bytes := by simp [tbytes, Program.bytesOf, hi]
 have hzs : zv.cells.size = i.size := by have := hzc.length; simp at this; omega
 obtain ⟨g1, g2, g3, g4, hk⟩ := hk
 rw [hby] at g3
 have hrun := run_make (P := P) w t e i zv hu hi hzi kl kc l c g1 g2 (by rw [Int.mul_comm]; exact g3) (by simpa [maxI] using g4)
 have hcells : relL μ (List.replicate c.toNat zs).flatten (madeCells zv.cells (c.toNat * i.size)).toList := by
  rw [← hzs, madeCells_list]; exact relL.replicate hzc _
 have hl := hcells.length
 have hone : oneAll (List.replicate c.toNat zs).flatten = true := by
  simp only [oneAll, List.all_eq_true] at ho ⊢
  intro x hx
  simp at hx
  obtain ⟨_, ⟨_, rfl⟩, hx⟩ := hx
  exact ho x hx
 have hsize : (madeCells zv.cells (c.toNat * i.size)).size = (List.replicate c.toNat zs).flatten.length := by rw [← hl]; simp
 refine ⟨_, _, _, _, _, _, lam, hrun, hk, R.alloc _ _ e (by omega) hone (fun j x hx => ?_), Ren.le_append _ _, lamLe.refl _, ⟨w.heap.size, 0, (madeCells zv.cells (c.toNat * i.size)).size⟩, c.toNat, _, ?_, rfl, by simp only; omega, .inr rfl, fun _ => rfl, fun hne => absurd rfl hne⟩
 ·obtain ⟨y, hy, hxy⟩ := hcells.get hx
  exact ⟨y, by simpa using hy, hxy⟩
 ·simp [R.heap.len]
theorem isU8_some {e : TypeId} (h : isU8 P e = true) : P.underlying e = some (.int .u8) := by
 simp only [isU8] at h
 split at h
 ·assumption
 ·cases h
theorem relL_bytes {μ : Ren} : ∀ {l : List UInt8} {vs : List Value}, relL μ (byteAVs l) vs → vs = l.map fun b => Value.int .u8 b.toNat
 | [], vs, h => by simpa [byteAVs, relL] using h
 | b :: l, vs, h => by
  obtain ⟨y, ys, hl, hy, h'⟩ := h
  rw [hl]
  have e1 : y = _ := hy
  have := relL_bytes (l := l) h'
  rw [this, e1]; rfl
theorem relL_bytes_mk {μ : Ren} : ∀ (l : List UInt8), relL μ (byteAVs l) (l.map fun b => Value.int .u8 b.toNat)
 | [] => rfl
 | b :: l => ⟨_, _, rfl, rfl, relL_bytes_mk l⟩
theorem oneAll_bytes (l : List UInt8) : oneAll (byteAVs l) = true := by
 simp [oneAll, byteAVs, AV.one]
theorem slCells_rel (R : Rel μ0 h0 w0 μ lam L h w) {s : Option SL} {v : Value} (hv : AV.rel μ (.sl s) v) {n : Nat} (hn : n = 0 ∨ 0 < slLen s) {xs : List AV} (hx : slCells h s n = some xs) :
  ∃ a len cap vs, v = .slice a len cap ∧ len = slLen s ∧ vs.length = n ∧ relL μ xs vs ∧ oneAll xs = true ∧
   (∀ a', a = some a' → ∀ j u, vs[j]? = some u → w.cell? (a'.add j) = some u) ∧ (a = none → vs = []) := by
 cases s with
 | none =>
  simp only [slCells] at hx
  split at hx
  ·rename_i h0
   cases hx
   exact ⟨none, 0, 0, [], hv, rfl, h0.symm, rfl, rfl, by simp, fun _ => rfl⟩
  ·cases hx
 | some s =>
  simp only [slCells] at hx
  obtain ⟨m, c', q, hm, rfl, hlc, hq, hx1, hx2⟩ := hv
  obtain ⟨c, rw', e1, e2, e3⟩ := cellsAt_some hx
  simp only at e1 e2 e3
  by_cases hn0 : n = 0
  ·subst hn0
   have : xs = [] := by rw [e3]; simp
   subst this
   exact ⟨_, _, _, [], rfl, rfl, rfl, rfl, rfl, fun a' ha => by simp, fun h => by cases h⟩
  ·have hpos := hn.resolve_left hn0
   simp only [slLen] at hpos
   have hc0 : c' ≠ 0 := by
    by_cases ho : s.opn = 0
    ·rw [hx1 ho]; omega
    ·have := (hx2 ho).1; omega
   have hq' := hq.resolve_left hc0
   obtain ⟨C, t', fz, k1, k2, k3, ko, k4, k5⟩ := R.heap.blk _ _ m e1 (hm.resolve_right hc0)
   have hone : oneAll xs = true := by rw [e3]; exact oneAll_take (oneAll_drop ko _) _
   obtain ⟨vs, a1, a2, a3, _⟩ := cells_slice k1 k4 e2
   refine ⟨_, _, _, vs, rfl, rfl, a1, by rw [e3]; exact a2, hone, fun a' ha => ?_, fun h => by cases h⟩
   cases ha
   rw [hq']; exact a3
theorem foldl_push (l : List UInt8) (s : ByteArray) : ((l.map fun b => (b.toNat : Int)).foldl (fun r n => r.push (UInt8.ofNat n.toNat)) s) = ⟨s.data ++ l.toArray⟩ := by
 induction l generalizing s with
 | nil => simp
 | cons b l ih =>
  simp only [List.map_cons, List.foldl_cons, ih]
  congr 1
  simp [ByteArray.push]
theorem out_bytesToString (R : Rel μ0 h0 w0 μ lam L h w) {src dst e : TypeId} (hs : P.underlying src = some (.slice e)) (hd : P.underlying dst = some .string) (he : isU8 P e = true) {s : Option SL} {v : Value} (hv : AV.rel μ (.sl s) v)
  (hk : PStr h s fun l => K (.val (.str l)) L h) : Out P μ0 h0 w0 μ lam w (convert src dst v) K := by
 obtain ⟨l, hl, hk⟩ := hk
 obtain ⟨a, len, cap, vs, rfl, rfl, hvl, hr, _, ha, hn⟩ := slCells_rel R hv (by omega) hl
 have hvs := relL_bytes hr
 refine Out.same R (v := .string ⟨l.toArray⟩) ?_ hk rfl
 rw [run_convert_bytes_string w src dst e a _ _ hs (isU8_some he) hd]
 cases a with
 | none =>
  have := hn rfl
  rw [this] at hvs
  have hl0 : l = [] := by simpa using hvs.symm
  subst hl0
  rfl
 | some a =>
  have hc := ha a rfl
  have hload := run_loadCells_list (P := P) w a vs hc
  rw [hvl, hvs] at hload
  have := run_bytesToString (P := P) w a (slLen s) cap (l.map fun b => (b.toNat : Int)) (by rw [hload]; simp [Function.comp_def])
  rw [this, foldl_push]
  simp [ByteArray.empty, ByteArray.emptyWithCapacity]
  rfl
theorem freeze_eq {w : World} {r n : Nat} {C : Array Value} {t : TypeId} (hw : w.heap[r]? = some (.cells C t (0, 0))) : w.freeze ⟨r, n, none⟩ 1 = w.setBlk r (.cells C t (n, n + 1)) := by
 unfold World.freeze World.setBlk
 simp only [Nat.one_ne_zero, if_false]
 congr 1
 have hr := heap_lt hw
 have hg : w.heap[r] = .cells C t (0, 0) := by simpa [Array.getElem?_eq_getElem hr] using hw
 apply Array.ext_getElem?
 intro i
 rw [Array.getElem?_modify, Array.getElem?_setIfInBounds]
 by_cases hi : r = i
 ·subst hi
  simp [hr, hg]
 ·simp [hi]
theorem out_stringToBytes (R : Rel μ0 h0 w0 μ lam L h w) {src dst e : TypeId} (hs : P.underlying src = some .string) (hd : P.underlying dst = some (.slice e)) (he : isU8 P e = true) {s : List UInt8} (hle : s.length ≤ 4611686018427387904)
  (hk : K (.val (.sl (some ⟨h.length, 0, s.length, s.length, 1⟩))) L (h ++ [.cells (byteAVs s) false])) : Out P μ0 h0 w0 μ lam w (convert src dst (.string ⟨s.toArray⟩)) K := by
 have he' := isU8_some he
 have hsz : (⟨s.toArray⟩ : ByteArray).size = s.length := by simp [ByteArray.size]
 have hge := grownCap_ge w s.length 0 e
 generalize hC : ((⟨s.toArray⟩ : ByteArray).data.map fun b => Value.int .u8 b.toNat) ++ Array.replicate (grownCap w s.length 0 e - s.length) (Value.int .u8 0) = C
 have hCsz : C.size = grownCap w s.length 0 e := by rw [← hC]; simp; omega
 have hblk := heap_push_new w.drew (.cells C e)
 have hrun : (convert src dst (.string ⟨s.toArray⟩)).run P w = .ok (.slice (some ⟨w.heap.size, 0, none⟩) s.length (grownCap w s.length 0 e)) ((w.drew.alloc (.cells C e)).setBlk w.heap.size (.cells C e (C.size, C.size + 1))) := by
  unfold convert
  rw [Sem.run_bind, run_underlying hs]
  simp only [Result.andThen_ok]
  rw [Sem.run_bind, run_underlying hd]
  simp only [Result.andThen_ok]
  rw [Sem.run_bind, run_underlying he']
  simp only [Result.andThen_ok]
  unfold Conv.stringToBytes
  rw [Sem.run_bind, run_choose]
  have hforce : (Question.appendCap (⟨s.toArray⟩ : ByteArray).size 0 e).forced = false := rfl
  rw [hsz] at *
  simp only [hforce, Bool.false_eq_true, if_false, Result.andThen_ok]
  show Sem.run P (do
   let a ← newRow e (((⟨s.toArray⟩ : ByteArray).data.map fun b => Value.int .u8 b.toNat) ++ Array.replicate (grownCap w s.length 0 e - s.length) (Value.int .u8 0))
   markStringish a
   pure (Value.slice (some a) s.length (grownCap w s.length 0 e)) : Sem Value) w.drew = _
  rw [hC]
  have hsh : (w.drew.alloc (.cells C e)).shape? w.heap.size = some (e, C.size) := by
   unfold World.shape?
   have : (w.drew.alloc (.cells C e)).heap[w.heap.size]? = some (.cells C e) := hblk
   rw [this]
  rw [Sem.run_bind]
  have h1 : (newRow e C).run P w.drew = .ok ⟨w.heap.size, 0, none⟩ (w.drew.alloc (.cells C e)) := by
   simp [newRow]
   rfl
  have h2 : (markStringish ⟨w.heap.size, 0, none⟩).run P (w.drew.alloc (.cells C e)) = .ok () ((w.drew.alloc (.cells C e)).setBlk w.heap.size (.cells C e (C.size, C.size + 1))) := by
   unfold markStringish
   rw [Sem.run_bind, run_shape]
   simp only [hsh, Result.andThen_ok, run_freeze]
   have hblk' : (w.drew.alloc (.cells C e)).heap[w.heap.size]? = some (.cells C e) := hblk
   rw [freeze_eq (C := C) (t := e) hblk']
  rw [h1]
  simp only [Result.andThen_ok, Sem.run_bind, h2, Sem.run_pure]
 have R1 : Rel μ0 h0 w0 μ lam L h (w.drew.alloc (.cells C e)) := (R.drawn (w' := w.drew) rfl rfl rfl rfl).extra _
 have hfree : ∀ (b : Nat) (B : Blk) (e' : ME), h[b]? = some B → B.live = true → μ[b]? = some e' → e'.r ≠ w.heap.size := fun b B e' _ _ he => by have := R.heap.bnd b e' he; omega
 have hloc : ∀ k : Nat, lam[k]? ≠ some w.heap.size := fun k hk => by have := (R.locs.new k _ hk).2; omega
 have R2 := R1.scratch w.heap.size (.cells C e (C.size, C.size + 1)) (.inl R.evo.size) hfree hloc
 have R3 := R2.adopt ⟨w.heap.size, 0, C.size⟩ (.cells (byteAVs s) false) (.inl R.evo.size) (by simp) (by
  refine ⟨C, e, _, setBlk_same _ _ _ (by simp), by simp, by simp [byteAVs]; omega, oneAll_bytes _, ?_, fun h => by cases h⟩
  intro i x hx
  obtain ⟨y, hy, hxy⟩ := (relL_bytes_mk (μ := μ ++ [⟨w.heap.size, 0, C.size⟩]) s).get hx
  refine ⟨y, ?_, hxy⟩
  have hlt := lt_of_get hy
  rw [← hC, Nat.zero_add, Array.getElem?_append_left (by simpa using hlt)]
  rw [← Array.getElem?_toList]
  simpa using hy) hfree hloc
 refine ⟨_, _, _, _, _, _, lam, hrun, hk, R3, Ren.le_append _ _, lamLe.refl _, ⟨w.heap.size, 0, C.size⟩, grownCap w s.length 0 e, _, ?_, rfl, Nat.le_refl _, .inr rfl, fun h => by simp at h, fun _ => ⟨hge, by simp [hCsz]⟩⟩
 simp [R.heap.len]
end
end Go.Ab
