import Derived.Test.YtnglhicedhcpbaaGreatDoorLG14
import Derived.Test.YtnglhicedhcpbaaGreatDoorLG16
namespace Go.Proofs
open Go.Ab Go.RowKit Go.Shelf
set_option linter.unusedVariables false
set_option linter.unusedSimpArgs false
namespace Chk
def partV (b o len c i : Nat) : AV := .sl (some ⟨b, o + i * c, min c (len - i * c), min c (len - i * c), 0⟩)
def partsV (b o len c k : Nat) : List AV := (List.range k).map (partV b o len c)
theorem zNL {μ : Go.Ab.Ren} {a : Nat} {v : Value} (h : AV.rel μ (.ptr (some ⟨a, 0⟩)) v) : ∃ e : ME, μ[a]? = some e /\ v = .pointer (some ⟨e.r, e.s, none⟩) := by
 obtain ⟨e, h1, h2⟩ := h
 exact ⟨e, h1, by simpa using h2⟩
theorem zKX {μ : Go.Ab.Ren} {h : Heap} {w : World} (H : HRel μ h w) {a : Nat} {x : AV} {rw' : Bool} {e : ME} (ha : h[a]? = some (.cells [x] rw')) (he : μ[a]? = some e) : ∃ y, w.cell? ⟨e.r, e.s, none⟩ = some y /\ x.rel μ y := by
 obtain ⟨C, t, fz, h1, h2, h3, h4, h5, h6⟩ := H.blk a _ e ha he
 obtain ⟨y, g1, g2⟩ := h5 0 x rfl
 exact ⟨y, by rw [zEV h1]; simpa using g1, g2⟩
theorem collect_ac {a d : Nat} {s : SL} {c : Nat} {ra rd : Bool} {h : Heap} {Q : AHp} (hc1 : 1 <= c) (hcm : c <= 1000000) (ha : h[a]? = some (.cells [.sl (some s)] ra)) (hd : h[d]? = some (.cells [.int .i64 c] rd)) (hl : 1 <= s.len) (hm : s.len <= 1000000000)
  (hq : ∀ k, s.len <= k * c -> (k - 1) * c < s.len -> 1 <= k -> Q (.sl (some ⟨h.length, 0, k, k, 1⟩)) (h ++ [.cells (partsV s.b s.o s.len c k) true])) :
  AC Tryz.prog 247 [.func (.func 280) [] [.ptr (some ⟨a, 0⟩), .ptr (some ⟨d, 0⟩)]] h Q := by
 refine ⟨by kernel_rfl, fun μ w vs H hv => ?_⟩
 obtain ⟨v, rfl, f', c', rfl, hf, hcc⟩ := kA hv
 have hfe : f' = #[] := by apply Array.ext'; exact hf
 obtain ⟨y1, ys, hc1', hy1, y2, ys2, hys, hy2, hnil⟩ := hcc
 subst hys
 have hnil : ys2 = [] := hnil
 subst hnil
 have hce : c' = #[y1, y2] := by apply Array.ext'; exact hc1'
 subst hfe hce
 obtain ⟨ea, he1, rfl⟩ := zNL hy1
 obtain ⟨ed, he2, rfl⟩ := zNL hy2
 obtain ⟨z1, b1, b2⟩ := zKX H ha he1
 obtain ⟨z2, d1, d2⟩ := zKX H hd he2
 obtain ⟨es, cap, q, g1, rfl, g3, g4, g5, g6⟩ := b2
 obtain rfl : z2 = .int .i64 c := d2
 have hcap : s.len <= cap := by
  by_cases ho : s.opn = 0
  ·rw [g5 ho]; exact g3
  ·exact Nat.le_trans g3 (g6 ho).1
 have hq0 : q = ⟨es.r, es.s + s.o, none⟩ := g4.resolve_left (by omega)
 have he : μ[s.b]? = some es := g1.resolve_right (by omega)
 subst hq0
 have hea := H.bnd a ea he1
 have hed := H.bnd d ed he2
 refine (callsIn_wide.1 (zL5 Fence.wide 4 trivial trivial trivial rfl (Nat.le_refl _) ea.r ea.s ed.r ed.s es.r (es.s + s.o) s.len cap c hc1 hcm hcap hm w hea hed b1 d1)).mono fun en w' hh => ?_
 obtain ⟨v, k, he3, k1, k2, ⟨hr0, hrow⟩, hbelow⟩ := hh
 have hk1 : 1 <= k := by
  rcases Nat.eq_zero_or_pos k with h0 | h0
  ·subst h0; omega
  ·exact h0
 have k2' : (k - 1) * c < s.len := k2.resolve_left (by omega)
 have R := (zCG H).below hbelow
 rcases hrow with ⟨hv, hn⟩ | ⟨gb, cap', cur, rfl, hge, hgb, hcap', hmax, hcur, htake⟩
 ·omega
 ·have R2 := R.adopt ⟨gb, 0, cap'⟩ (.cells (partsV s.b s.o s.len c k) true) (.inl hge) (kD hgb) ?_ ?_ (by simp)
  ·refine ⟨_, .sl (some ⟨h.length, 0, k, k, 1⟩), _, _, he3, hq k k1 k2' hk1, R2.evo, R2.heap, ⟨gb, 0, cap'⟩, cap', ⟨gb, 0, none⟩, ?_, rfl, Nat.le_refl _, .inr rfl, by simp, ?_⟩
   ·left; rw [<- H.len]; simp
   ·intro _
    simp only
    exact ⟨by omega, by omega⟩
  ·refine ⟨cur, 100, (0, 0), hgb, by simp; omega, by simp only [partsV, List.length_map, List.length_range]; omega, ?_, ?_, fun _ => rfl⟩
   ·simp [zU, partsV, partV, AV.one]
   ·intro i x hx
    have hi := zD hx
    simp only [partsV, List.length_map, List.length_range] at hi
    have h1 : (cur.toList.take (k * 1))[i]? = ((upto (part s.len c) k).map (encP es.r (es.s + s.o)))[i]? := by rw [htake]
    rw [List.getElem?_take, if_pos (by omega)] at h1
    unfold partsV at hx
    unfold upto at h1
    rw [List.getElem?_map, List.getElem?_range hi] at hx
    rw [List.getElem?_map, List.getElem?_map, List.getElem?_range hi] at h1
    simp only [Option.map_some, Option.some.injEq] at h1 hx
    subst hx
    refine ⟨_, by rw [Nat.zero_add]; simpa using h1, ?_⟩
    unfold partV encP part
    refine ⟨es, min c (s.len - i * c), ⟨es.r, es.s + s.o + i * c, none⟩, .inl ?_, rfl, Nat.le_refl _, .inr (by rw [Nat.add_assoc]), fun _ => rfl, fun h => absurd rfl h⟩
    exact Go.Ab.Ren.le_append _ _ _ _ he
  ·intro b B e' hb hlv he'
   have := (zCG H).heap.bnd b e' he'
   simp only; omega
end Chk
end Go.Proofs
