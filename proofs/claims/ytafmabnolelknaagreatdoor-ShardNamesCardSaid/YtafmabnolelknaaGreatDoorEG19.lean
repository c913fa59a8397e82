import Derived.Test.YtafmabnolelknaaGreatDoorEG13
import Derived.OpenShut
import Derived.LaidLaws
import Derived.FnData
import Derived.SevenTiedAt


namespace Go.Ab
set_option linter.unusedSimpArgs false
set_option linter.unusedVariables false
def laidHs : Nat → List (Nat × List AV) → Heap
 | _, [] => []
 | j, (g, c) :: gs => .gm g (j + 1) :: .cells c false :: laidHs (j + 2) gs
theorem laidHs_ro : ∀ (gs : List (Nat × List AV)) (j b : Nat) (B : Blk), (laidHs j gs)[b]? = some B → B.rw = false
 | [], j, b, B, h => by simp [laidHs] at h
 | (g, c) :: gs, j, b, B, h => by
  match b with
  | 0 => cases h; rfl
  | 1 => cases h; rfl
  | b + 2 => exact laidHs_ro gs (j + 2) b B h
def wlaidE : Nat → List (Nat × List AV) → EH → (EH → Bool) → Bool
 | _, [], h, k => k h
 | j, (g, c) :: gs, h, k => eNewB (.gm g (j + 1)) h fun _ h1 => eNewB (.cells c false) h1 fun _ h2 => wlaidE (j + 2) gs h2 k
theorem wlaidE_ok : ∀ (gs : List (Nat × List AV)) (j : Nat) (e : EH) (h : Heap) (k : EH → Bool), HFor e h → wlaidE j gs e k = true → ∃ e', HFor e' (h ++ laidHs j gs) ∧ k e' = true
 | [], j, e, h, k, H, hk => ⟨e, by simpa [laidHs] using H, hk⟩
 | (g, c) :: gs, j, e, h, k, H, hk => by
  obtain ⟨e1, h1, h2⟩ := eNewB_ok H hk
  obtain ⟨e2, h3, h4⟩ := eNewB_ok h1 h2
  obtain ⟨e', H', h5⟩ := wlaidE_ok gs (j + 2) _ _ k h3 h4
  exact ⟨e', by simpa [laidHs] using H', h5⟩
theorem HRel.pre {μ : Ren} {h : Heap} {w : World} (hh : HRel μ h w) {gs : List (Nat × List AV)} (hp : ∀ i, i < (laidHs 0 gs).length → h[i]? = (laidHs 0 gs)[i]?) (hl : (laidHs 0 gs).length ≤ h.length)
  (hg : ∀ (i g j : Nat), (laidHs 0 gs)[i]? = some (.gm g j) → j < (laidHs 0 gs).length)
  (hc : ∀ (i : Nat) (c : List AV) (rw : Bool), (laidHs 0 gs)[i]? = some (.cells c rw) → ∀ x ∈ c, ∀ (μ μ' : Ren) (y : Value), x.rel μ y → x.rel μ' y)
  (ho : ∀ (i : Nat) (B : Blk), (laidHs 0 gs)[i]? = some B → (∃ g j, B = .gm g j) ∨ ∃ c r, B = .cells c r) : HRel (μ.take (laidHs 0 gs).length) (laidHs 0 gs) w := by
 have tk : ∀ i, i < (laidHs 0 gs).length → (μ.take (laidHs 0 gs).length)[i]? = μ[i]? := fun i hi => by rw [List.getElem?_take, if_pos hi]
 refine ⟨by rw [List.length_take, hh.len]; omega, ?_, ?_, ?_⟩
 ·intro b B e hb he
  have hi := lt_of_get hb
  rw [tk b hi] at he
  have h1 := hh.blk b B e (by rw [hp b hi]; exact hb) he
  rcases ho b B hb with ⟨g, j, rfl⟩ | ⟨c, r, rfl⟩
  ·obtain ⟨m, k1, k2, k3⟩ := h1
   exact ⟨m, by rw [tk j (hg b g j hb)]; exact k1, k2, k3⟩
  ·obtain ⟨C, t, fz, k1, k2, k3, k4, k5, k6⟩ := h1
   exact ⟨C, t, fz, k1, k2, k3, k4, fun i x hx => let ⟨y, hy, hr⟩ := k5 i x hx; ⟨y, hy, hc b c r hb x (List.mem_of_getElem? hx) _ _ _ hr⟩, k6⟩
 ·intro b1 b2 B1 B2 e1 e2 hne hb1 hb2 hr
  rw [laidHs_ro gs 0 b1 B1 hb1] at hr; cases hr
 ·intro b e he
  have hi : b < (laidHs 0 gs).length := by
   have := lt_of_get he
   rw [List.length_take] at this; omega
  rw [tk b hi] at he
  exact hh.bnd b e he
theorem AC_frame_gs {P : Program} {f : FuncId} {args : List AV} {gs : List (Nat × List AV)} {h : Heap} {v : AV} {Q : AV → Heap → Prop} (H : AC P f args (laidHs 0 gs) fun x _ => x = v) (ha : ∀ (μ μ' : Ren) (vs : List Value), relL μ args vs → relL μ' args vs) (hv : ∀ (μ μ' : Ren) (x : Value), v.rel μ x → v.rel μ' x)
  (hp : ∀ (μ : Ren) (w : World), HRel μ h w → ∃ μ1, HRel μ1 (laidHs 0 gs) w) (hq : Q v h) : AC P f args h Q := by
 refine ⟨H.1, fun μ w vs hh hx => ?_⟩
 obtain ⟨μ1, hh1⟩ := hp μ w hh
 have := H.2 μ1 w vs hh1 (ha μ μ1 vs hx)
 refine this.mono fun e w' ⟨x, y, h', μ', he, hy, ev, _, hr⟩ => ?_
 subst hy
 have hB : ∀ k, k < w.heap.size → w'.heap[k]? = w.heap[k]? := fun k hk => ev.frame k hk (fun b B e hb hrw _ => by rw [laidHs_ro gs 0 b B hb] at hrw; cases hrw)
 refine ⟨x, y, h, μ, he, hq, ⟨.refl _, Nat.le_refl _, ev.size, fun k hk _ => hB k hk, fun b B e hb hrw he => .inr ⟨b, B, e, hb, hrw, he, rfl⟩, fun b B e hb hrw he => .inr ⟨b, B, e, hb, hrw, he, rfl⟩, ev.os, ev.tape, ev.output⟩, ?_, hv _ _ _ hr⟩
 exact ⟨hh.len, fun b B e hb he => (hh.blk b B e hb he).world (hB _ (hh.bnd b e he)), hh.sep, fun b e he => Nat.lt_of_lt_of_le (hh.bnd b e he) ev.size⟩
theorem HRel.lay {μ : Ren} {h : Heap} {W : World} (hh : HRel μ h W) (hro : ∀ (b : Nat) (B : Blk), h[b]? = some B → B.rw = false) {g : Nat} {c : List AV} {C : Array Value} {t : TypeId} {fz : Nat × Nat} (hb : W.heap[g]? = some (.cells C t fz)) (hl : C.size = c.length) (ho : oneAll c = true)
  (hc : ∀ (μ : Ren) (i : Nat) (x : AV), c[i]? = some x → ∃ y, C[i]? = some y ∧ x.rel μ y) (hm : ∀ (b g j : Nat), h[b]? = some (.gm g j) → j < h.length)
  (hs : ∀ (b : Nat) (c : List AV) (r : Bool), h[b]? = some (.cells c r) → ∀ x ∈ c, ∀ (μ μ' : Ren) (y : Value), x.rel μ y → x.rel μ' y) (hk : ∀ (i : Nat) (B : Blk), h[i]? = some B → (∃ g j, B = .gm g j) ∨ ∃ c r, B = .cells c r) :
  HRel (μ ++ [⟨g, 0, 0⟩, ⟨g, 0, C.size⟩]) (h ++ [.gm g (h.length + 1), .cells c false]) W := by
 have hsz : g < W.heap.size := by
  rcases Nat.lt_or_ge g W.heap.size with h | h
  ·exact h
  ·simp [Array.getElem?_eq_none h] at hb
 have hlen := hh.len
 have old : ∀ i, i < h.length → (μ ++ [(⟨g, 0, 0⟩ : ME), ⟨g, 0, C.size⟩])[i]? = μ[i]? := fun i hi => List.getElem?_append_left (by omega)
 have n0 : (μ ++ [(⟨g, 0, 0⟩ : ME), ⟨g, 0, C.size⟩])[h.length]? = some ⟨g, 0, 0⟩ := by rw [List.getElem?_append_right (by omega), show h.length - μ.length = 0 by omega]; rfl
 have n1 : (μ ++ [(⟨g, 0, 0⟩ : ME), ⟨g, 0, C.size⟩])[h.length + 1]? = some ⟨g, 0, C.size⟩ := by rw [List.getElem?_append_right (by omega), show h.length + 1 - μ.length = 1 by omega]; rfl
 refine ⟨by simp [hlen], ?_, ?_, ?_⟩
 ·intro b B e hB he
  by_cases hi : b < h.length
  ·rw [List.getElem?_append_left hi] at hB
   rw [old b hi] at he
   have h1 := hh.blk b B e hB he
   rcases hk b B hB with ⟨g, j, rfl⟩ | ⟨c, r, rfl⟩
   ·obtain ⟨m, k1, k2, k3⟩ := h1
    exact ⟨m, by rw [old j (hm b g j hB)]; exact k1, k2, k3⟩
   ·obtain ⟨C, t, fz, k1, k2, k3, k4, k5, k6⟩ := h1
    exact ⟨C, t, fz, k1, k2, k3, k4, fun i x hx => let ⟨y, hy, hr⟩ := k5 i x hx; ⟨y, hy, hs b c r hB x (List.mem_of_getElem? hx) _ _ _ hr⟩, k6⟩
  ·have hb2 := lt_of_get hB
   simp at hb2
   rcases Nat.lt_or_ge b (h.length + 1) with h2 | h2
   ·obtain rfl : b = h.length := by omega
    rw [n0] at he; cases he
    rw [List.getElem?_append_right (by omega), Nat.sub_self] at hB; cases hB
    exact ⟨_, n1, rfl, rfl⟩
   ·obtain rfl : b = h.length + 1 := by omega
    rw [n1] at he; cases he
    rw [List.getElem?_append_right (by omega), show h.length + 1 - h.length = 1 by omega] at hB; cases hB
    exact ⟨C, t, fz, hb, by simp, by rw [hl]; exact Nat.le_refl _, ho, fun i x hx => let ⟨y, hy, hr⟩ := hc _ i x hx; ⟨y, by rw [Nat.zero_add]; exact hy, hr⟩, fun h => by cases h⟩
 ·intro b1 b2 B1 B2 e1 e2 hne hb1 hb2 hr
  exfalso
  by_cases hi : b1 < h.length
  ·rw [List.getElem?_append_left hi] at hb1
   rw [hro b1 B1 hb1] at hr; cases hr
  ·have hb3 := lt_of_get hb1
   simp at hb3
   rcases Nat.lt_or_ge b1 (h.length + 1) with h2 | h2
   ·obtain rfl : b1 = h.length := by omega
    rw [List.getElem?_append_right (by omega), Nat.sub_self] at hb1; cases hb1; cases hr
   ·obtain rfl : b1 = h.length + 1 := by omega
    rw [List.getElem?_append_right (by omega), show h.length + 1 - h.length = 1 by omega] at hb1; cases hb1; cases hr
 ·intro b e he
  by_cases hi : b < h.length
  ·rw [old b hi] at he
   exact hh.bnd b e he
  ·have hb3 := lt_of_get he
   simp at hb3
   rcases Nat.lt_or_ge b (h.length + 1) with h2 | h2
   ·obtain rfl : b = h.length := by omega
    rw [n0] at he; cases he; exact hsz
   ·obtain rfl : b = h.length + 1 := by omega
    rw [n1] at he; cases he; exact hsz
theorem HRel_nil (W : World) : HRel [] [] W := ⟨rfl, fun b B e h => by simp at h, fun b1 b2 B1 B2 e1 e2 _ h => by simp at h, fun b e h => by simp at h⟩
end Go.Ab
