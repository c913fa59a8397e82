import Derived.Test.YtankijamfedliaaGreatDoorFG3
import Derived.Test.YtankijamfedliaaGreatDoorFG13
import Derived.Test.YtankijamfedliaaGreatDoorFG14
import Derived.Test.YtankijamfedliaaGreatDoorFG16
import Derived.Test.YtankijamfedliaaGreatDoorFG20
import Derived.Test.YtankijamfedliaaGreatDoorFG25
import Derived.Test.YtankijamfedliaaGreatDoorFG26
namespace Go.Proofs.YtankijamfedliaaGreatDoor
open Go.Ab
open Go.Num hiding Bs snoc_ind
open Go.Ent Go.Seg
open Go.Page hiding Bs get
open Go.Dsk hiding Bs
open Go.Pool hiding Bs Ents set_at Fr least
set_option linter.unusedVariables false
set_option linter.unusedSimpArgs false
structure CW (hW : Heap) (dp sp p fb mb : Nat) (s : Bs) (base count : Nat) (q : Option SL) (heads : List Ent) (pg : Nat → Int × List Ent) : Prop where
 laid : Laid hW
 nl : ¬ pbl p fb mb 0 ∧ ¬ pbl p fb mb 1
 np : ¬ pbl p fb mb sp
 nq : ∀ t, q = some t → ¬ pbl p fb mb t.b
 at' : hW[sp]? = some (segC dp s base count q)
 hd : HasL entE hW q heads
 few : heads.length ≤ 9000
 so : SortedL heads
 short : ∀ i, (pg i).2.length ≤ 10
 page : ∀ (i : Nat), i < heads.length → ∀ (h : Heap) (K : AV → Heap → Prop), Keeps (pbl p fb mb) hW h → hW.length ≤ h.length → ((pg i).1 ≠ 0 → ∀ h2, Ext h h2 → K (.tup [.sl none, .int .i64 (pg i).1]) h2) → ((pg i).1 = 0 → ∀ q h2, Ext h h2 → HasL entE h2 q (pg i).2 → (∀ t, q = some t → h.length ≤ t.b) → K (.tup [.sl q, .int .i64 0]) h2) → AC Tryz.prog 55 [.ptr (some ⟨sp, 0⟩), .int .i64 (i : Nat)] h K
structure CP (z : Nat → Prop) (hW h : Heap) (p fb mb : Nat) (P : PS) (N : Nat) : Prop where
 x : Keeps (pbl p fb mb) hW h
 xl : hW.length ≤ h.length
 R : PoolR (entZ z) h p fb mb P
 sm : P.sm N
 zl : ∀ b, z b → b < h.length
 zp : ∀ b, z b → ¬ pbl p fb mb b
abbrev curC (p sp i : Nat) (ql : Option SL) (at' e : Int) : Blk := .cells [.ptr (some ⟨p, 0⟩), .ptr (some ⟨sp, 0⟩), .int .i64 (i : Nat), .sl ql, .int .i64 at', .int .i64 e] true
section
variable {z : Nat → Prop} {hW h h' : Heap} {Q : AV → Heap → Prop} {dp sp base count p fb mb cb i N : Nat} {s : Bs} {q ql : Option SL} {heads l : List Ent} {pg : Nat → Int × List Ent} {P P1 : PS} {at' e : Int}
theorem cur_at (hc : h[cb]? = some (curC p sp i ql at' e)) {k : Nat} {x : AV} (hx : [AV.ptr (some ⟨p, 0⟩), .ptr (some ⟨sp, 0⟩), .int .i64 (i : Nat), .sl ql, .int .i64 at', .int .i64 e][k]? = some x) : cellsAt h ⟨cb, 0 + k⟩ 1 = some [x] := by
 have hk : k < 6 := by
  have := (List.getElem?_eq_some_iff.1 hx).1
  simpa using this
 rw [cells6 hc (by simp only [List.length_cons, List.length_nil]; omega)]
 match k, hk with
 | 0, _ | 1, _ | 2, _ | 3, _ | 4, _ | 5, _ => cases hx; rfl
theorem CP.seg (C : CP z hW h p fb mb P N) (W : CW hW dp sp p fb mb s base count q heads pg) : h[sp]? = some (segC dp s base count q) := C.x _ _ W.np W.at'
theorem CP.hds (C : CP z hW h p fb mb P N) (W : CW hW dp sp p fb mb s base count q heads pg) : HasL entE h q heads := C.x.hasL (fun t ht => W.nq t ht) W.hd
theorem CP.ok (C : CP z hW h p fb mb P N) : P.ok := by
 obtain ⟨rs, es, cl, R⟩ := C.R
 exact R.ok
theorem CP.grow (C : CP z hW h p fb mb P N) (x : Ext h h') : CP z hW h' p fb mb P N := ⟨fun b B hb hB => x _ _ (C.x _ _ hb hB), by have := C.xl; have := x.len; omega, C.R.ext x, C.sm, fun b hb => by have := C.zl b hb; have := x.len; omega, C.zp⟩
theorem CP.other (C : CP z hW h p fb mb P N) {X : Nat → Prop} (K : Keeps X h h') (hX : ∀ b, X b → z b) (hN : ∀ b, X b → hW.length ≤ b) (hl : h.length ≤ h'.length) : CP z hW h' p fb mb P N := by
 obtain ⟨rs, es, cl, R⟩ := C.R
 refine ⟨fun b B hb hB => K _ _ (fun hc => by have := hN b hc; have := lt_of_get hB; omega) (C.x _ _ hb hB), by have := C.xl; omega, ⟨rs, es, cl, ?_⟩, C.sm, fun b hb => by have := C.zl b hb; omega, C.zp⟩
 exact R.keepsZ K hX ⟨fun hc => C.zp _ (hX _ hc) (.inl rfl), fun hc => C.zp _ (hX _ hc) (.inr (.inl rfl)), fun hc => C.zp _ (hX _ hc) (.inr (.inr rfl))⟩
theorem CP.more (C : CP z hW h p fb mb P N) {c : Nat} (x : Ext h h') (hc : h.length ≤ c) (hc' : c < h'.length) : CP (fun b => z b ∨ b = c) hW h' p fb mb P N := by
 obtain ⟨rs, es, cl, R⟩ := C.R
 have R1 : PoolC (entZ fun b => z b ∨ b = c) h p fb mb rs es cl P := R.more (z := fun b => z b ∨ b = c) fun b hb => by
  rcases hb with hb | hb
  ·exact .inl hb
  ·right; omega
 have pl : ∀ b, pbl p fb mb b → b < h.length := fun b hb => by
  rcases hb with rfl | rfl | rfl
  ·exact lt_of_get R.pb
  ·exact lt_of_get R.fbk
  ·exact lt_of_get R.mbk
 refine ⟨fun b B hb hB => x _ _ (C.x _ _ hb hB), by have := C.xl; have := x.len; omega, PoolR.ext ⟨_, _, _, R1⟩ x, C.sm, fun b hb => ?_, fun b hb hp => ?_⟩
 ·rcases hb with hb | hb
  ·have := C.zl b hb; have := x.len; omega
  ·omega
 ·rcases hb with hb | hb
  ·exact C.zp b hb hp
  ·have := pl b hp; omega
theorem CP.pool_lt (C : CP z hW h p fb mb P N) {b : Nat} (hb : pbl p fb mb b) : b < h.length := by
 obtain ⟨rs, es, cl, R⟩ := C.R
 rcases hb with rfl | rfl | rfl
 ·exact lt_of_get R.pb
 ·exact lt_of_get R.fbk
 ·exact lt_of_get R.mbk
theorem CP.hold {r1 : Int} {l1 : List Ent} (C : CP z hW h p fb mb P N) (W : CW hW dp sp p fb mb s base count q heads pg) (hi : i < heads.length) (hN : N ≤ 1000000) (e1 : P.hold s (i : Int) (pg i) = (r1, l1, P1))
  (hQ : ∀ q' h', CP z hW h' p fb mb P1 (N + 1) → Keeps (pbl p fb mb) h h' → h.length ≤ h'.length → (r1 = 0 → HasL entE h' q' l1 ∧ ∀ t, q' = some t → h.length ≤ t.b) → (r1 ≠ 0 → q' = none) → Q (.tup [.sl q', .int .i64 r1]) h') :
  AC Tryz.prog 22 [.ptr (some ⟨p, 0⟩), .ptr (some ⟨sp, 0⟩), .int .i64 (i : Nat)] h Q := by
 obtain ⟨rs, es, cl, R⟩ := C.R
 have hk := hold_sm C.sm R.ok.hand (s := s) (i := (i : Int)) (r := pg i) (by have := W.short i; omega)
 refine k22 (s := s) (base := base) (count := count) (q0 := q) (dp := dp) (r := pg i) R C.sm.lt (by omega) (fun f hf => by have := C.sm.l f hf; omega) (by have := W.short i; omega) C.zl (C.seg W) W.np
  (fun {h2} {K} x hE hK => W.page i hi h2 K (fun b B hb hB => x _ _ (C.x _ _ hb hB)) (by have := C.xl; have := x.len; omega) hE hK) fun q' h' R' K' l' a1 a2 => ?_
 rw [e1] at R' a1 a2 hk
 rw [e1]
 exact hQ q' h' ⟨fun b B hb hB => K' _ _ hb (C.x _ _ hb hB), by have := C.xl; omega, R', hk, fun b hb => by have := C.zl b hb; omega, C.zp⟩ K' l' a1 a2
theorem CP.free {n r1 : Int} (C : CP z hW h p fb mb P N) (hN : N ≤ 1000000) (e1 : P.free s n = (r1, P1))
  (hQ : ∀ h', CP z hW h' p fb mb P1 N → Keeps (pbl p fb mb) h h' → h'.length = h.length → Q (.int .i64 r1) h') : AC Tryz.prog 23 [.ptr (some ⟨p, 0⟩), .str s, .int .i64 n] h Q := by
 obtain ⟨rs, es, cl, R⟩ := C.R
 have hk := free_sm C.sm (s := s) (i := n)
 refine k23 R C.sm.lt (by omega) fun h' rs' C' K' l' => ?_
 rw [e1] at C' hk ⊢
 exact hQ h' ⟨fun b B hb hB => K' _ _ hb (C.x _ _ hb hB), by have := C.xl; omega, ⟨_, _, _, C'⟩, hk, fun b hb => by have := C.zl b hb; omega, C.zp⟩ K' l'
theorem CP.heldN (C : CP z hW h p fb mb P N) (hQ : Q (.int .i64 (P.held : Nat)) h) : AC Tryz.prog 15 [.ptr (some ⟨p, 0⟩)] h Q := by
 obtain ⟨rs, es, cl, R⟩ := C.R
 exact k15 R hQ
end
structure CS (z : Nat → Prop) (hW h : Heap) (sp p fb mb cb i : Nat) (l : List Ent) (at' : Nat) (e : Int) (P : PS) (N : Nat) : Prop where
 C : CP z hW h p fb mb P N
 cell : ∃ ql, h[cb]? = some (curC p sp i ql (at' : Nat) e) ∧ HasL entE h ql l ∧ ∀ t, ql = some t → ¬ z t.b ∧ ¬ pbl p fb mb t.b
 zc : z cb
 nw : hW.length ≤ cb
section
variable {z : Nat → Prop} {hW h h' : Heap} {Q : AV → Heap → Prop} {dp sp base count p fb mb cb i N at' : Nat} {s : Bs} {q ql : Option SL} {heads l : List Ent} {pg : Nat → Int × List Ent} {P P1 : PS} {e : Int}
theorem CS.grow (S : CS z hW h sp p fb mb cb i l at' e P N) (x : Ext h h') : CS z hW h' sp p fb mb cb i l at' e P N := by
 obtain ⟨ql, a, b, c⟩ := S.cell
 exact ⟨S.C.grow x, ⟨ql, x _ _ a, b.mono x, c⟩, S.zc, S.nw⟩
theorem c44 {at0 e0 r1 : Int} {l1 : List Ent} (C : CP z hW h p fb mb P N) (W : CW hW dp sp p fb mb s base count q heads pg) (hc : h[cb]? = some (curC p sp i ql at0 e0)) (zc : z cb) (nw : hW.length ≤ cb) (hi : i < heads.length) (hN : N ≤ 1000000) (e1 : P.hold s (i : Int) (pg i) = (r1, l1, P1)) (hl1 : r1 ≠ 0 → l1 = [])
  (hQ : ∀ h', CS z hW h' sp p fb mb cb i l1 0 r1 P1 (N + 1) → Keeps (fun b => pbl p fb mb b ∨ b = cb) h h' → h.length ≤ h'.length → Q (.int .i64 r1) h') : AC Tryz.prog 44 [.ptr (some ⟨cb, 0⟩)] h Q := ac44 (by
 unfold vc44
 refine ⟨_, cur_at hc (k := 0) rfl, ⟨_, cur_at hc (k := 1) rfl, ⟨_, cur_at hc (k := 2) rfl, ?_⟩⟩⟩
 refine C.hold W hi hN e1 fun q' h9 C9 K9 l9 a1 a2 => ⟨_, _, rfl, ?_⟩
 have hc9 := K9 _ _ (C.zp _ zc) hc
 have hl9 := lt_of_get hc9
 refine store6v (o := 5) hc9 (by simp) ?_
 rw [show splice [AV.ptr (some ⟨p, 0⟩), .ptr (some ⟨sp, 0⟩), .int .i64 (i : Nat), .sl ql, .int .i64 at0, .int .i64 e0] 5 [.int .i64 r1] = [AV.ptr (some ⟨p, 0⟩), .ptr (some ⟨sp, 0⟩), .int .i64 (i : Nat), .sl ql, .int .i64 at0, .int .i64 r1] from rfl]
 refine store6v (o := 3) (List.getElem?_set_self hl9) (by simp) ?_
 rw [List.set_set, show splice [AV.ptr (some ⟨p, 0⟩), .ptr (some ⟨sp, 0⟩), .int .i64 (i : Nat), .sl ql, .int .i64 at0, .int .i64 r1] 3 [.sl q'] = [AV.ptr (some ⟨p, 0⟩), .ptr (some ⟨sp, 0⟩), .int .i64 (i : Nat), .sl q', .int .i64 at0, .int .i64 r1] from rfl]
 refine store6v (o := 4) (List.getElem?_set_self hl9) (by simp) ?_
 rw [List.set_set, show splice [AV.ptr (some ⟨p, 0⟩), .ptr (some ⟨sp, 0⟩), .int .i64 (i : Nat), .sl q', .int .i64 at0, .int .i64 r1] 4 [.int .i64 0] = [AV.ptr (some ⟨p, 0⟩), .ptr (some ⟨sp, 0⟩), .int .i64 (i : Nat), .sl q', .int .i64 0, .int .i64 r1] from rfl]
 have K2 : Keeps (fun b => b = cb) h9 (h9.set cb (curC p sp i q' 0 r1)) := keeps_set rfl
 have zlt := C.zl _ zc
 have hq : HasL entE h9 q' l1 ∧ ∀ t, q' = some t → h.length ≤ t.b := by
  by_cases hr : r1 = 0
  ·exact a1 hr
  ·rw [a2 hr, hl1 hr]; exact ⟨rfl, by simp⟩
 refine hQ _ ⟨C9.other K2 (fun b hb => by rw [hb]; exact zc) (fun b hb => by rw [hb]; exact nw) (by rw [List.length_set]; omega), ⟨q', List.getElem?_set_self hl9, K2.hasL (fun t ht hb => by have := hq.2 t ht; omega) hq.1, fun t ht => ⟨fun hz => by have := C.zl _ hz; have := hq.2 t ht; omega, fun hp => by have := C.pool_lt hp; have := hq.2 t ht; omega⟩⟩, zc, nw⟩ (fun b B hb hB => K2 _ _ (fun hc => hb (.inr hc)) (K9 _ _ (fun hc => hb (.inl hc)) hB)) (by rw [List.length_set]; omega))
theorem c48 {at0 e0 r1 : Int} (C : CP z hW h p fb mb P N) (W : CW hW dp sp p fb mb s base count q heads pg) (hc : h[cb]? = some (curC p sp i ql at0 e0)) (zc : z cb) (nw : hW.length ≤ cb) (hN : N ≤ 1000000) (e1 : P.free s (i : Int) = (r1, P1))
  (hQ : ∀ h', CP z hW h' p fb mb P1 N → h'[cb]? = some (curC p sp i none at0 e0) → Keeps (fun b => pbl p fb mb b ∨ b = cb) h h' → h'.length = h.length → Q (.tup []) h') : AC Tryz.prog 48 [.ptr (some ⟨cb, 0⟩)] h Q := ac48 (by
 unfold vc48
 refine ⟨_, cur_at hc (k := 0) rfl, ⟨_, cur_at hc (k := 1) rfl, ⟨_, cur_at hc (k := 2) rfl, ?_⟩⟩⟩
 refine k53 (C.seg W) ⟨_, rfl, ⟨_, cur_at hc (k := 2) rfl, rfl⟩, ⟨_, cur_at hc (k := 0) rfl, rfl⟩, ?_⟩
 refine C.free hN e1 fun h12 C12 K12 l12 => ⟨_, rfl, ?_⟩
 have hc12 := K12 _ _ (C.zp _ zc) hc
 have hl12 := lt_of_get hc12
 refine store6v (o := 3) hc12 (by simp) ?_
 rw [show splice [AV.ptr (some ⟨p, 0⟩), .ptr (some ⟨sp, 0⟩), .int .i64 (i : Nat), .sl ql, .int .i64 at0, .int .i64 e0] 3 [.sl none] = [AV.ptr (some ⟨p, 0⟩), .ptr (some ⟨sp, 0⟩), .int .i64 (i : Nat), .sl none, .int .i64 at0, .int .i64 e0] from rfl]
 have K2 : Keeps (fun b => b = cb) h12 (h12.set cb (curC p sp i none at0 e0)) := keeps_set rfl
 exact hQ _ (C12.other K2 (fun b hb => by rw [hb]; exact zc) (fun b hb => by rw [hb]; exact nw) (by rw [List.length_set]; omega)) (List.getElem?_set_self hl12) (fun b B hb hB => K2 _ _ (fun hc => hb (.inr hc)) (K12 _ _ (fun hc => hb (.inl hc)) hB)) (by rw [List.length_set]; omega))
theorem c14 (S : CS z hW h sp p fb mb cb i l at' e P N) (hl : l.length ≤ 1000) (h0 : l.length ≤ at' → Q (.tup [entV (0, 0, 0, 0), .bool false]) h) (h1 : ∀ x, l[at']? = some x → Q (.tup [entV x, .bool true]) h) : AC Tryz.prog 14 [.ptr (some ⟨cb, 0⟩)] h Q := ac14 (by
 unfold vc14
 obtain ⟨ql, hc, H, _⟩ := S.cell
 refine vif_mk (fun g => by simp at g) (fun _ => ⟨_, cur_at hc (k := 4) rfl, ⟨_, cur_at hc (k := 3) rfl, ?_⟩⟩)
 rw [H.len]
 refine vif_mk (fun g => h0 (by have := of_decide_eq_true g; omega)) (fun g => ?_)
 replace g := of_decide_eq_false g
 refine ⟨_, cur_at hc (k := 3) rfl, ⟨_, cur_at hc (k := 4) rfl, ?_⟩⟩
 refine HasL.idx (E := entE) H (by omega) (by omega) fun p10 x hx hc10 => ⟨_, _, _, _, hc10, ?_⟩
 rw [Int.toNat_natCast] at hx
 exact h1 x hx)
theorem c20e (S : CS z hW h sp p fb mb cb i [] at' e P N) (hQ : Q (.tup []) h) : AC Tryz.prog 20 [.ptr (some ⟨cb, 0⟩)] h Q := ac20 (by
 unfold vc20
 obtain ⟨ql, hc, H, _⟩ := S.cell
 refine vif_mk (fun _ => ⟨_, cur_at hc (k := 3) rfl, ?_⟩) (fun _ => hQ)
 rw [H.len]
 exact vif_mk (fun g => by simp at g) (fun _ => hQ))
theorem c20 {r1 : Int} (S : CS z hW h sp p fb mb cb i l at' e P N) (W : CW hW dp sp p fb mb s base count q heads pg) (hl : l ≠ []) (hN : N ≤ 1000000) (e1 : P.free s (i : Int) = (r1, P1))
  (hQ : ∀ h', CS z hW h' sp p fb mb cb i [] 0 e P1 N → Keeps (fun b => pbl p fb mb b ∨ b = cb) h h' → h'.length = h.length → Q (.tup []) h') : AC Tryz.prog 20 [.ptr (some ⟨cb, 0⟩)] h Q := ac20 (by
 unfold vc20
 obtain ⟨ql, hc, H, _⟩ := S.cell
 refine vif_mk (fun _ => ⟨_, cur_at hc (k := 3) rfl, ?_⟩) (fun g => by simp at g)
 rw [H.len]
 have hlp : 0 < l.length := by
  cases l with
  | nil => exact absurd rfl hl
  | cons a l => simp
 refine vif_mk (fun _ => ?_) (fun g => by have := of_decide_eq_false g; omega)
 refine c48 S.C W hc S.zc S.nw hN e1 fun h5 C5 hc5 K5 l5 => ⟨rfl, ?_⟩
 have hl5 := lt_of_get hc5
 refine store6v (o := 4) hc5 (by simp) ?_
 rw [show splice [AV.ptr (some ⟨p, 0⟩), .ptr (some ⟨sp, 0⟩), .int .i64 (i : Nat), .sl none, .int .i64 (at' : Nat), .int .i64 e] 4 [.int .i64 0] = [AV.ptr (some ⟨p, 0⟩), .ptr (some ⟨sp, 0⟩), .int .i64 (i : Nat), .sl none, .int .i64 0, .int .i64 e] from rfl]
 have K2 : Keeps (fun b => b = cb) h5 (h5.set cb (curC p sp i none 0 e)) := keeps_set rfl
 exact hQ _ ⟨C5.other K2 (fun b hb => by rw [hb]; exact S.zc) (fun b hb => by rw [hb]; exact S.nw) (by rw [List.length_set]; omega), ⟨none, List.getElem?_set_self hl5, rfl, by simp⟩, S.zc, S.nw⟩ (fun b B hb hB => K2 _ _ (fun hc => hb (.inr hc)) (K5 _ _ hb hB)) (by rw [List.length_set]; omega))
end
theorem hold_nil {P P1 : PS} {s : Bs} {i r1 : Int} {r : Int × List Ent} {l1 : List Ent} (e : P.hold s i r = (r1, l1, P1)) (h : r1 ≠ 0) : l1 = [] := by
  unfold PS.hold at e
  split at e
  · cases e; exact absurd rfl h
  · split at e
    · cases e; rfl
    · split at e
      · cases e; rfl
      · cases e; exact absurd rfl h
section
variable {z : Nat → Prop} {hW h h' : Heap} {Q : AV → Heap → Prop} {dp sp base count p fb mb cb i N at' : Nat} {s : Bs} {q ql : Option SL} {heads l : List Ent} {pg : Nat → Int × List Ent} {P P1 : PS} {e : Int}
theorem c16e (S : CS z hW h sp p fb mb cb i [] at' e P N) (hQ : Q (.int .i64 4) h) : AC Tryz.prog 16 [.ptr (some ⟨cb, 0⟩)] h Q := ac16 (by
  unfold vc16
  obtain ⟨ql, hc, H, _⟩ := S.cell
  refine vif_mk (fun g => by simp at g) (fun _ => ⟨_, cur_at hc (k := 3) rfl, ?_⟩)
  rw [H.len]
  exact vif_mk (fun _ => hQ) (fun g => by simp at g))
set_option maxHeartbeats 1000000 in
theorem c16 (S : CS z hW h sp p fb mb cb i l at' e P N) (W : CW hW dp sp p fb mb s base count q heads pg) (hl : at' < l.length) (hl2 : l.length ≤ 1000) (hi : i < heads.length) (hN : N ≤ 1000000)
    (h1 : at' + 1 < l.length → ∀ h', CS z hW h' sp p fb mb cb i l (at' + 1) e P N → Keeps (fun b => pbl p fb mb b ∨ b = cb) h h' → h.length ≤ h'.length → Q (.int .i64 0) h')
    (h2 : at' + 1 = l.length → ¬ i + 1 < heads.length → ∀ r P1, P.free s (i : Int) = (r, P1) → ∀ h', CS z hW h' sp p fb mb cb i [] 0 e P1 N → Keeps (fun b => pbl p fb mb b ∨ b = cb) h h' → h.length ≤ h'.length → Q (.int .i64 0) h')
    (h3 : at' + 1 = l.length → i + 1 < heads.length → ∀ r P1 r1 l1 P2, P.free s (i : Int) = (r, P1) → P1.hold s ((i + 1 : Nat) : Int) (pg (i + 1)) = (r1, l1, P2) → ∀ h', CS z hW h' sp p fb mb cb (i + 1) l1 0 r1 P2 (N + 1) → Keeps (fun b => pbl p fb mb b ∨ b = cb) h h' → h.length ≤ h'.length → Q (.int .i64 r1) h') :
    AC Tryz.prog 16 [.ptr (some ⟨cb, 0⟩)] h Q := ac16 (by
  unfold vc16
  obtain ⟨ql, hc, H, d⟩ := S.cell
  have hcl := lt_of_get hc
  have few := W.few
  refine vif_mk (fun g => by simp at g) (fun _ => ⟨_, cur_at hc (k := 3) rfl, ?_⟩)
  rw [H.len]
  refine vif_mk (fun g => by have : ((l.length : Nat) : Int) = 0 := by simpa using g
                             omega) (fun _ => ⟨_, cur_at hc (k := 4) rfl, ?_⟩)
  refine store6v (o := 4) hc (by simp) ?_
  rw [wrapK_i64 ⟨by omega, by omega⟩, show splice [AV.ptr (some ⟨p, 0⟩), .ptr (some ⟨sp, 0⟩), .int .i64 (i : Nat), .sl ql, .int .i64 (at' : Nat), .int .i64 e] 4 [.int .i64 ((at' : Int) + 1)] = [AV.ptr (some ⟨p, 0⟩), .ptr (some ⟨sp, 0⟩), .int .i64 (i : Nat), .sl ql, .int .i64 ((at' + 1 : Nat) : Int), .int .i64 e] from rfl]
  have K7 : Keeps (fun b => b = cb) h (h.set cb (curC p sp i ql ((at' + 1 : Nat) : Int) e)) := keeps_set rfl
  have S7 : CS z hW (h.set cb (curC p sp i ql ((at' + 1 : Nat) : Int) e)) sp p fb mb cb i l (at' + 1) e P N :=
    ⟨S.C.other K7 (fun b hb => by rw [hb]; exact S.zc) (fun b hb => by rw [hb]; exact S.nw) (by rw [List.length_set]; omega), ⟨ql, List.getElem?_set_self hcl, K7.hasL (fun t ht hb => (d t ht).1 (by have hb : t.b = cb := hb; rw [hb]; exact S.zc)) H, d⟩, S.zc, S.nw⟩
  have hc7 : (h.set cb (curC p sp i ql ((at' + 1 : Nat) : Int) e))[cb]? = some (curC p sp i ql ((at' + 1 : Nat) : Int) e) := List.getElem?_set_self hcl
  have l7 : (h.set cb (curC p sp i ql ((at' + 1 : Nat) : Int) e)).length = h.length := List.length_set
  generalize h.set cb (curC p sp i ql ((at' + 1 : Nat) : Int) e) = h7 at *
  have KK : ∀ {h9 : Heap}, Keeps (fun b => pbl p fb mb b ∨ b = cb) h7 h9 → Keeps (fun b => pbl p fb mb b ∨ b = cb) h h9 := fun K b B hb hB => K _ _ hb (K7 _ _ (fun hc => hb (.inr hc)) hB)
  refine ⟨_, cur_at hc7 (k := 4) rfl, ⟨_, cur_at hc7 (k := 3) rfl, ?_⟩⟩
  rw [H.len]
  refine vif_mk (fun g => ?_) (fun g => ?_)
  · replace g := of_decide_eq_true g
    exact h1 (by omega) h7 S7 (KK (.refl _ _)) (by omega)
  replace g := of_decide_eq_false g
  have he : at' + 1 = l.length := by omega
  rcases e1 : P.free s (i : Int) with ⟨r, P1⟩
  refine c20 S7 W (by intro hn; rw [hn] at hl; simp at hl) hN e1 fun h13 S13 K13 l13 => ⟨rfl, ?_⟩
  obtain ⟨ql13, hc13, H13, d13⟩ := S13.cell
  refine ⟨_, cur_at hc13 (k := 2) rfl, ⟨_, cur_at hc13 (k := 1) rfl, ?_⟩⟩
  refine k21 (S13.C.seg W) (S13.C.hds W) ⟨_, rfl, ⟨_, cur_at hc13 (k := 2) rfl, rfl⟩, ?_⟩
  rw [wrapK_i64 ⟨by omega, by omega⟩]
  refine vif_mk (fun g2 => ?_) (fun g2 => ?_)
  · replace g2 := of_decide_eq_true g2
    exact h2 he (by omega) r P1 e1 h13 S13 (KK K13) (by omega)
  replace g2 := of_decide_eq_false g2
  have hi1 : i + 1 < heads.length := by omega
  have hl13 := lt_of_get hc13
  refine ⟨_, cur_at hc13 (k := 2) rfl, ?_⟩
  refine store6v (o := 2) hc13 (by simp) ?_
  rw [wrapK_i64 ⟨by omega, by omega⟩, show splice [AV.ptr (some ⟨p, 0⟩), .ptr (some ⟨sp, 0⟩), .int .i64 (i : Nat), .sl ql13, .int .i64 ((0 : Nat) : Int), .int .i64 e] 2 [.int .i64 ((i : Int) + 1)] = [AV.ptr (some ⟨p, 0⟩), .ptr (some ⟨sp, 0⟩), .int .i64 ((i + 1 : Nat) : Int), .sl ql13, .int .i64 ((0 : Nat) : Int), .int .i64 e] from rfl]
  have K24 : Keeps (fun b => b = cb) h13 (h13.set cb (curC p sp (i + 1) ql13 ((0 : Nat) : Int) e)) := keeps_set rfl
  rcases e2 : P1.hold s ((i + 1 : Nat) : Int) (pg (i + 1)) with ⟨r1, l1, P2⟩
  refine c44 (S13.C.other K24 (fun b hb => by rw [hb]; exact S.zc) (fun b hb => by rw [hb]; exact S.nw) (by rw [List.length_set]; omega)) W (List.getElem?_set_self hl13) S.zc S.nw hi1 hN e2 (hold_nil e2) fun h26 S26 K26 l26 => ⟨_, rfl, ?_⟩
  rw [List.length_set] at l26
  exact h3 he hi1 r P1 r1 l1 P2 e1 e2 h26 S26 (KK (fun b B hb hB => K26 _ _ hb (K24 _ _ (fun hc => hb (.inr hc)) (K13 _ _ hb hB)))) (by omega))
end
end Go.Proofs.YtankijamfedliaaGreatDoor
namespace Go.Proofs.YtankijamfedliaaGreatDoor
open Go.Ab
open Go.Num hiding Bs snoc_ind
open Go.Ent Go.Seg Go.Cur
open Go.Page hiding Bs get
open Go.Dsk hiding Bs
open Go.Pool hiding Bs Ents set_at Fr least
set_option linter.unusedVariables false
set_option linter.unusedSimpArgs false
theorem free_ok {P : PS} {s : Bs} {i : Int} (ok : P.ok) : (P.free s i).2.ok := by
 unfold PS.free
 split
 ·exact ok
 ·split
  ·rename_i k _ _ f hf
   split
   ·exact ok
   ·have key : ∀ (j : Nat) (g : Pool.Fr), (P.fr.set k { f with held := f.held - 1 })[j]? = some g → ∃ g0, P.fr[j]? = some g0 ∧ g0.is = g.is ∧ g0.name = g.name ∧ g0.i = g.i := fun j g hg => by
     rw [List.getElem?_set] at hg
     by_cases hj : k = j
     ·subst hj
      rw [if_pos rfl] at hg
      split at hg
      ·cases hg; exact ⟨f, hf, rfl, rfl, rfl⟩
      ·cases hg
     ·rw [if_neg hj] at hg; exact ⟨g, hg, rfl, rfl, rfl⟩
    refine { ok with one := fun j k' a b ha hb h1 h2 h3 h4 => ?_, hand := by simpa using ok.hand, few := by simpa using ok.few }
    obtain ⟨a0, a1, a2, a3, a4⟩ := key j a ha
    obtain ⟨b0, b1, b2, b3, b4⟩ := key k' b hb
    exact ok.one j k' a0 b0 a1 b1 (by rw [a2]; exact h1) (by rw [b2]; exact h2) (by rw [a3, b3]; exact h3) (by rw [a4, b4]; exact h4)
  ·exact ok
structure GP (heads : List Ent) (gs : List (List Ent)) : Prop where
 len : gs.length = heads.length
 ne : ∀ g ∈ gs, g ≠ []
 l10 : ∀ g ∈ gs, g.length ≤ 10
def Out (fl : Bs → Nat → Int × List Ent) (n : Nat) (C : List Pg) (s : Bs) (gs : List (List Ent)) (r : Nat → Int) : Prop := ∀ (i : Nat) (g : List Ent), gs[i]? = some g →
 (r i = 0 ∧ fl s i = (0, g) ∧ ((s, i) ∈ C ∨ dist C < n)) ∨ (r i ≠ 0 ∧ ((fl s i).1 = r i ∨ (r i = 90 ∧ fl s i = (0, g) ∧ (s, i) ∉ C ∧ dist C = n)))
theorem Out.good {fl : Bs → Nat → Int × List Ent} {n : Nat} {C : List Pg} {s : Bs} {gs : List (List Ent)} {r : Nat → Int} (O : Out fl n C s gs r) {P : PS} (A : HP fl n C P) (ok : P.ok) {i : Nat} {g : List Ent} (hg : gs[i]? = some g) (h0 : r i = 0) :
  ∃ P1, P.hold s (i : Nat) (fl s i) = (0, g, P1) ∧ HP fl n ((s, i) :: C) P1 := by
 rcases O i g hg with ⟨_, h2, h3⟩ | ⟨h1, _⟩
 ·rw [h2]; exact A.hold ok h2 h3
 ·exact absurd h0 h1
theorem Out.bad {fl : Bs → Nat → Int × List Ent} {n : Nat} {C : List Pg} {s : Bs} {gs : List (List Ent)} {r : Nat → Int} (O : Out fl n C s gs r) {P : PS} (A : HP fl n C P) (ok : P.ok) {i : Nat} {g : List Ent} (hg : gs[i]? = some g) (h0 : r i ≠ 0) :
  P.hold s (i : Nat) (fl s i) = (r i, [], P) := by
 rcases O i g hg with ⟨h1, _⟩ | ⟨_, h2 | ⟨h2, h3, h4, h5⟩⟩
 ·exact absurd h1 h0
 ·have := A.bad (s := s) (i := i) rfl (by rw [h2]; exact h0)
  rw [h2] at this; exact this
 ·rw [h3, h2]; exact A.full ok h4 h5
def CR (z : Nat → Prop) (hW h : Heap) (sp p fb mb cb : Nat) (s : Bs) (n : Nat) (fl : Bs → Nat → Int × List Ent) (gs : List (List Ent)) (r : Nat → Int) (C : List Pg) (R : List Ent) (E err : Int) (P : PS) (N : Nat) : Prop :=
 (∃ (i at' : Nat) (l : List Ent), CS z hW h sp p fb mb cb i l at' 0 P N ∧ HP fl n ((s, i) :: C) P ∧ gs[i]? = some l ∧ at' < l.length ∧ R = l.drop at' ++ (tailL r (gs.drop (i + 1)) (i + 1)).1 ∧ E = (tailL r (gs.drop (i + 1)) (i + 1)).2 ∧ err = 0) ∨
 (R = [] ∧ ∃ i, CS z hW h sp p fb mb cb i [] 0 err P N ∧ HP fl n C P)
section
variable {z z' : Nat → Prop} {hW h h' : Heap} {Q : AV → Heap → Prop} {dp sp base count p fb mb cb n N : Nat} {s : Bs} {q ql : Option SL} {heads R : List Ent} {fl : Bs → Nat → Int × List Ent} {gs : List (List Ent)} {r : Nat → Int} {C : List Pg} {x : Ent} {E err : Int} {P : PS}
theorem CP.step (C : CP z hW h p fb mb P N) {X : Nat → Prop} (K : Keeps X h h') (hX : ∀ b, X b → z b) (hN : ∀ b, X b → hW.length ≤ b) (hl : h.length ≤ h'.length) (h1 : ∀ b, z b → z' b) (h2 : ∀ b, z' b → z b ∨ (h.length ≤ b ∧ b < h'.length)) : CP z' hW h' p fb mb P N := by
 obtain ⟨rs, es, cl, R⟩ := C.R
 have R1 : PoolC (entZ z') h p fb mb rs es cl P := R.more (z := z') fun b hb => by
  rcases h2 b hb with a | a
  ·exact .inl a
  ·exact .inr a.1
 have hp : ∀ b, pbl p fb mb b → ¬ X b := fun b hb hc => C.zp _ (hX _ hc) hb
 refine ⟨fun b B hb hB => K _ _ (fun hc => by have := hN b hc; have := lt_of_get hB; omega) (C.x _ _ hb hB), by have := C.xl; omega, ⟨rs, es, cl, R1.keepsZ K (fun b hb => h1 b (hX b hb)) ⟨hp _ (.inl rfl), hp _ (.inr (.inl rfl)), hp _ (.inr (.inr rfl))⟩⟩, C.sm, fun b hb => ?_, fun b hb hc => ?_⟩
 ·rcases h2 b hb with a | a
  ·have := C.zl b a; omega
  ·exact a.2
 ·rcases h2 b hb with a | a
  ·exact C.zp b a hc
  ·have := C.pool_lt hc; omega
theorem gp_len (G : GP heads gs) {i : Nat} {l : List Ent} (hl : gs[i]? = some l) : l.length ≤ 10 := G.l10 l (List.mem_of_getElem? hl)
theorem drop_cons {l : List Ent} {a : Nat} (ha : a < l.length) : l.drop a = l[a] :: l.drop (a + 1) := List.drop_eq_getElem_cons ha
theorem CR.peek (S : CR z hW h sp p fb mb cb s n fl gs r C R E err P N) (G : GP heads gs) (h0 : R = [] → Q (.tup [entV (0, 0, 0, 0), .bool false]) h) (h1 : ∀ x R', R = x :: R' → Q (.tup [entV x, .bool true]) h) : AC Tryz.prog 14 [.ptr (some ⟨cb, 0⟩)] h Q := by
 rcases S with ⟨i, a, l, S, A, hg, ha, hR, _⟩ | ⟨hR, i, S, A⟩
 ·refine c14 S (by have := gp_len G hg; omega) (fun hc => by omega) fun x hx => ?_
  obtain ⟨_, rfl⟩ := List.getElem?_eq_some_iff.1 hx
  rw [drop_cons ha, List.cons_append] at hR
  exact h1 _ _ hR
 ·exact c14 S (by simp) (fun _ => h0 hR) (fun x hx => by simp at hx)
theorem CR.next (S : CR z hW h sp p fb mb cb s n fl gs r C R E err P N) (W : CW hW dp sp p fb mb s base count q heads (fl s)) (G : GP heads gs) (O : Out fl n C s gs r) (hN : N ≤ 1000000) (h0 : R = [] → Q (.int .i64 4) h)
  (h1 : ∀ x R', R = x :: R' → ∀ h' P' N', CR z hW h' sp p fb mb cb s n fl gs r C R' E (if R' = [] then E else 0) P' N' → N' ≤ N + 1 → Keeps (fun b => pbl p fb mb b ∨ b = cb) h h' → h.length ≤ h'.length → Q (.int .i64 (if R' = [] then E else 0)) h') : AC Tryz.prog 16 [.ptr (some ⟨cb, 0⟩)] h Q := by
 have few := W.few
 rcases S with ⟨i, a, l, S, A, hg, ha, hR, hE, he⟩ | ⟨hR, i, S, A⟩
 ·have hil : i < heads.length := by rw [← G.len]; exact (List.getElem?_eq_some_iff.1 hg).1
  have hl10 := gp_len G hg
  rw [drop_cons ha, List.cons_append] at hR
  have h1 := h1 _ _ hR
  obtain ⟨P2, f1, A2⟩ := A.free S.C.ok
  refine c16 S W ha (by omega) hil (by omega) (fun hlt h' S' K' l' => ?_) (fun heq hni rr P1 e1 h' S' K' l' => ?_) (fun heq hi1 rr P1 r1 l1 P3 e1 e2 h' S' K' l' => ?_)
  ·have hne : l.drop (a + 1) ++ (tailL r (gs.drop (i + 1)) (i + 1)).1 ≠ [] := by rw [drop_cons hlt, List.cons_append]; exact List.cons_ne_nil _ _
   have := h1 h' P N (.inl ⟨i, a + 1, l, S', A, hg, hlt, rfl, hE, if_neg hne⟩) (by omega) K' l'
   rw [if_neg hne] at this
   exact this
  ·rw [f1] at e1; cases e1
   have ht : tailL r (gs.drop (i + 1)) (i + 1) = ([], 0) := tail_end (by rw [G.len]; omega)
   have hnil : l.drop (a + 1) ++ (tailL r (gs.drop (i + 1)) (i + 1)).1 = [] := by rw [ht, heq]; simp
   rw [hnil, if_pos rfl] at h1
   rw [ht] at hE
   rw [hE] at h1
   exact h1 h' P2 N (.inr ⟨rfl, i, S', A2⟩) (by omega) K' l'
  ·rw [f1] at e1; cases e1
   have ok2 : P2.ok := by
    have := free_ok (s := s) (i := (i : Int)) S.C.ok
    rw [f1] at this; exact this
   have hig : i + 1 < gs.length := by rw [G.len]; exact hi1
   have hg1 := List.getElem?_eq_getElem hig
   generalize gs[i + 1] = g1 at hg1
   have hne := G.ne g1 (List.mem_of_getElem? hg1)
   by_cases hr : r (i + 1) = 0
   ·obtain ⟨P4, f2, A4⟩ := O.good A2 ok2 hg1 hr
    obtain ⟨er, el, eP⟩ : r1 = 0 ∧ l1 = g1 ∧ P3 = P4 := by
     rw [f2] at e2; cases e2; exact ⟨rfl, rfl, rfl⟩
    subst er
    rw [el, eP] at S'
    have h0g : 0 < g1.length := by
     cases g1 with
     | nil => exact absurd rfl hne
     | cons a l => simp
    have ht := tail_at hg1 hr
    have hnil : l.drop (a + 1) ++ (tailL r (gs.drop (i + 1)) (i + 1)).1 = g1.drop 0 ++ (tailL r (gs.drop (i + 1 + 1)) (i + 1 + 1)).1 := by rw [ht, heq]; simp
    have hnn : g1.drop 0 ++ (tailL r (gs.drop (i + 1 + 1)) (i + 1 + 1)).1 ≠ [] := by
     rw [List.drop_zero]
     cases g1 with
     | nil => exact absurd rfl hne
     | cons a l => simp
    rw [hnil] at h1
    rw [if_neg hnn] at h1
    exact h1 h' P4 (N + 1) (.inl ⟨i + 1, 0, g1, S', A4, hg1, h0g, rfl, by rw [hE, ht], rfl⟩) (by omega) K' l'
   ·have f2 := O.bad A2 ok2 hg1 hr
    obtain ⟨er, el, eP⟩ : r1 = r (i + 1) ∧ l1 = [] ∧ P3 = P2 := by
     rw [f2] at e2; cases e2; exact ⟨rfl, rfl, rfl⟩
    have ht := tail_bad (gs := gs) hig hr
    have hnil : l.drop (a + 1) ++ (tailL r (gs.drop (i + 1)) (i + 1)).1 = [] := by rw [ht, heq]; simp
    rw [hnil, if_pos rfl] at h1
    have hE' : E = r1 := by rw [hE, ht, er]
    rw [el, eP] at S'
    rw [hE'] at h1
    exact h1 h' P2 (N + 1) (.inr ⟨rfl, i + 1, S', A2⟩) (by omega) K' l'
 ·subst hR
  exact c16e S (h0 rfl)
theorem CR.close (S : CR z hW h sp p fb mb cb s n fl gs r C R E err P N) (W : CW hW dp sp p fb mb s base count q heads (fl s)) (hN : N ≤ 1000000)
  (h1 : ∀ h' P', CR z hW h' sp p fb mb cb s n fl gs r C [] E err P' N → Keeps (fun b => pbl p fb mb b ∨ b = cb) h h' → h.length ≤ h'.length → Q (.tup []) h') : AC Tryz.prog 20 [.ptr (some ⟨cb, 0⟩)] h Q := by
 rcases S with ⟨i, a, l, S, A, hg, ha, hR, hE, he⟩ | ⟨hR, i, S, A⟩
 ·obtain ⟨P2, f1, A2⟩ := A.free S.C.ok
  refine c20 S W (by intro hn; rw [hn] at ha; simp at ha) hN f1 fun h' S' K' l' => ?_
  exact h1 h' P2 (.inr ⟨rfl, i, by rw [he]; exact S', A2⟩) K' (by omega)
 ·exact c20e S (h1 h P (.inr ⟨rfl, i, S, A⟩) (.refl _ _) (Nat.le_refl _))
end
end Go.Proofs.YtankijamfedliaaGreatDoor

namespace Go.Proofs.YtankijamfedliaaGreatDoor
open Go.Ab
open Go.Num hiding Bs snoc_ind
open Go.Ent Go.Seg Go.Cur
open Go.Page hiding Bs get
open Go.Dsk hiding Bs
open Go.Pool hiding Bs Ents set_at Fr least
set_option linter.unusedVariables false
set_option linter.unusedSimpArgs false
section
variable {h : Heap} {Q : AV → Heap → Prop} {p sp cb i : Nat} {at' e0 : Int} {q ql : Option SL} {l : List Ent} {e : Ent} {a6 a8 : Nat}
theorem c46 {j : Nat} {x : Ent} (c6 : cellsAt h ⟨a6, 0⟩ 1 = some [.ptr (some ⟨cb, 0⟩)]) (c8 : cellsAt h ⟨a8, 0⟩ 4 = some (entE.f e)) (hc : h[cb]? = some (curC p sp i ql at' e0)) (H : HasL entE h ql l) (hx : l[j]? = some x)
  (hQ : ∀ h', Ext h h' → Q (.bool (decide (¬ ltE x e))) h') : AC Tryz.prog 46 [.int .i64 (j : Nat), .ptr (some ⟨a6, 0⟩), .ptr (some ⟨a8, 0⟩)] h Q := ac46 (by
 unfold vc46
 have hil := (List.getElem?_eq_some_iff.1 hx).1
 refine ⟨_, c6, _, cur_at hc (k := 3) rfl, ?_⟩
 refine idx4 H hx rfl fun p hc => ⟨_, _, _, _, hc, _, _, _, _, c8, ?_⟩
 refine z47 (a := x) (b := e) fun h' x' => ⟨_, rfl, ?_⟩
 have := hQ h' x'
 have e1 : decide (cmpE x e ≥ 0) = decide (¬ ltE x e) := decide_eq_decide.2 ⟨fun g hc => by have := cmpE_lt.2 hc; omega, fun g => by
  rcases Int.lt_or_le (cmpE x e) 0 with h1 | h1
  ·exact absurd (cmpE_lt.1 h1) g
  ·exact h1⟩
 rw [e1]; exact this)
theorem c45 (c6 : cellsAt h ⟨a6, 0⟩ 1 = some [.ptr (some ⟨cb, 0⟩)]) (c8 : cellsAt h ⟨a8, 0⟩ 4 = some (entE.f e)) (hc : h[cb]? = some (curC p sp i ql at' e0)) (H : HasL entE h ql l) (hso : SortedL l) (hl : l.length ≤ 100000)
  (hQ : ∀ k h', Ext h h' → k ≤ l.length → (∀ i x, i < k → l[i]? = some x → ltE x e) → (∀ i x, k ≤ i → l[i]? = some x → ¬ ltE x e) → Q (.int .i64 (k : Nat)) h') :
  AC Tryz.prog 45 [.int .i64 (l.length : Nat), .func (.func 46) [] [.ptr (some ⟨a6, 0⟩), .ptr (some ⟨a8, 0⟩)]] h Q := ac45c (by
 unfold vc45c
 refine ⟨fun xs h8 => ∃ i j : Nat, xs = [.int .i64 (i : Nat), .int .i64 (j : Nat)] ∧ i ≤ j ∧ j ≤ l.length ∧ Ext h h8 ∧ (∀ k x, k < i → l[k]? = some x → ltE x e) ∧ (∀ k x, j ≤ k → l[k]? = some x → ¬ ltE x e),
  fun xs _ => match xs with | [.int _ i, .int _ j] => (j - i).toNat | _ => 0, ⟨0, l.length, rfl, by omega, by omega, .refl _, by omega, fun k x hk hx => by have := (List.getElem?_eq_some_iff.1 hx).1; omega⟩, ?_⟩
 rintro n4 n5 h8 ⟨i, j, hx, hij, hj, x8, hlo, hhi⟩
 simp only [List.cons.injEq, AV.int.injEq, true_and, and_true] at hx
 obtain ⟨rfl, rfl⟩ := hx
 refine vif_mk (fun g => ?_) (fun g => ?_)
 ·replace g := of_decide_eq_true g
  rw [mid_eq (by omega) (by omega)]
  have hm : (i + j) / 2 < l.length := by omega
  have hmx : l[(i + j) / 2]? = some l[(i + j) / 2] := List.getElem?_eq_getElem hm
  refine c46 (x8.cells c6) (x8.cells c8) (x8 _ _ hc) (H.mono x8) hmx fun h10 x10 => ⟨_, rfl, ?_⟩
  refine vif_mk (fun g2 => ?_) (fun g2 => ?_)
  ·have g2 : ltE l[(i + j) / 2] e := by simpa using g2
   rw [wrapK_i64 ⟨by omega, by omega⟩]
   exact ⟨trivial, ⟨(i + j) / 2 + 1, j, by simp, by omega, hj, x8.trans x10, fun k x hk hx => ltE_of_le (sorted_get hso (by omega) hx hmx) g2, hhi⟩, by simp only; omega⟩
  ·have g2 : ¬ ltE l[(i + j) / 2] e := by simpa using g2
   exact ⟨trivial, ⟨i, (i + j) / 2, by simp, by omega, by omega, x8.trans x10, hlo, fun k x hk hx => fun hc => g2 (ltE_of_le (sorted_get hso hk hmx hx) hc)⟩, by simp only; omega⟩
 ·replace g := of_decide_eq_false g
  have : i = j := by omega
  subst this
  exact hQ i h8 x8 hj hlo hhi)
end
section
variable {z : Nat → Prop} {hW h h' : Heap} {Q : AV → Heap → Prop} {dp sp base count p fb mb n N : Nat} {s : Bs} {q ql : Option SL} {heads : List Ent} {fl : Bs → Nat → Int × List Ent} {gs : List (List Ent)} {r : Nat → Int} {C : List Pg} {e : Ent} {P : PS}
structure NewS (z0 : Nat → Prop) (hW h : Heap) (sp p fb mb cb a6 a8 i : Nat) (e : Ent) (P : PS) (N : Nat) : Prop where
 C : CP (fun b => z0 b ∨ b = cb) hW h p fb mb P N
 cell : ∃ ql at' e0, h[cb]? = some (curC p sp i ql at' e0)
 c6 : cellsAt h ⟨a6, 0⟩ 1 = some [.ptr (some ⟨cb, 0⟩)]
 c8 : cellsAt h ⟨a8, 0⟩ 4 = some (entE.f e)
 n6 : a6 ≠ cb ∧ ¬ pbl p fb mb a6
 n8 : a8 ≠ cb ∧ ¬ pbl p fb mb a8
 nw : hW.length ≤ cb
theorem cells_keep {X : Nat → Prop} {a k : Nat} {c : List AV} (K : Keeps X h h') (ha : ¬ X a) (hc : cellsAt h ⟨a, 0⟩ k = some c) : cellsAt h' ⟨a, 0⟩ k = some c := by
 obtain ⟨C, rw', hb, hl, rfl⟩ := cellsAt_elim hc
 exact cellsAt_mk (K _ _ ha hb) hl
set_option maxHeartbeats 1000000 in
theorem new_page {z0 : Nat → Prop} {cb a6 a8 i : Nat} {K : AV → Heap → Prop} (S : NewS z0 hW h sp p fb mb cb a6 a8 i e P N) (W : CW hW dp sp p fb mb s base count q heads (fl s)) (G : GP heads gs) (O : Out fl n C s gs r) (F : HP fl n C P) (hi : i < heads.length) (hN : N ≤ 1000000) {g : List Ent} (hg : gs[i]? = some g)
  (h0 : r i = 0 → ∀ P1 h', CS (fun b => z0 b ∨ b = cb) hW h' sp p fb mb cb i g 0 0 P1 (N + 1) → HP fl n ((s, i) :: C) P1 → cellsAt h' ⟨a6, 0⟩ 1 = some [.ptr (some ⟨cb, 0⟩)] → cellsAt h' ⟨a8, 0⟩ 4 = some (entE.f e) → Keeps (fun b => pbl p fb mb b ∨ b = cb) h h' → h.length ≤ h'.length → K (.int .i64 0) h')
  (h1 : r i ≠ 0 → ∀ h', CS (fun b => z0 b ∨ b = cb) hW h' sp p fb mb cb i [] 0 (r i) P (N + 1) → Keeps (fun b => pbl p fb mb b ∨ b = cb) h h' → h.length ≤ h'.length → K (.int .i64 (r i)) h') :
  AC Tryz.prog 44 [.ptr (some ⟨cb, 0⟩)] h K := by
 obtain ⟨ql, at', e0, hc⟩ := S.cell
 by_cases hr : r i = 0
 ·obtain ⟨P1, f1, H1⟩ := O.good F S.C.ok hg hr
  refine c44 S.C W hc (.inr rfl) S.nw hi hN f1 (fun hc => absurd rfl hc) fun h' S' K' l' => ?_
  exact h0 hr P1 h' S' H1 (cells_keep K' (fun hc => by rcases hc with hc | hc; exact S.n6.2 hc; exact S.n6.1 hc) S.c6) (cells_keep K' (fun hc => by rcases hc with hc | hc; exact S.n8.2 hc; exact S.n8.1 hc) S.c8) K' l'
 ·have f1 := O.bad F S.C.ok hg hr
  refine c44 S.C W hc (.inr rfl) S.nw hi hN f1 (fun _ => rfl) fun h' S' K' l' => ?_
  exact h1 hr h' S' K' l'
set_option maxHeartbeats 2000000 in
theorem c13 (C0 : CP z hW h p fb mb P N) (W : CW hW dp sp p fb mb s base count q heads (fl s)) (G : GP heads gs) (O : Out fl n C s gs r) (F : HP fl n C P) (hso : SortedL gs.flatten) (hN : N ≤ 900000)
  (h0 : (fromL (tailL r (gs.drop (findS heads e)) (findS heads e)).1 e ≠ [] ∨ (tailL r (gs.drop (findS heads e)) (findS heads e)).2 = 0) → ∀ cb h' P' N', CR (fun b => z b ∨ b = cb) hW h' sp p fb mb cb s n fl gs r C (fromL (tailL r (gs.drop (findS heads e)) (findS heads e)).1 e) (tailL r (gs.drop (findS heads e)) (findS heads e)).2 0 P' N' → N' ≤ N + heads.length → Keeps (pbl p fb mb) h h' → h.length ≤ h'.length → h.length ≤ cb → Q (.tup [.ptr (some ⟨cb, 0⟩), .int .i64 0]) h')
  (h1 : fromL (tailL r (gs.drop (findS heads e)) (findS heads e)).1 e = [] → (tailL r (gs.drop (findS heads e)) (findS heads e)).2 ≠ 0 → ∀ h' z' P' N', CP z' hW h' p fb mb P' N' → HP fl n C P' → (∀ b, z b → z' b) → N' ≤ N + heads.length → Keeps (pbl p fb mb) h h' → h.length ≤ h'.length → Q (.tup [.ptr none, .int .i64 (tailL r (gs.drop (findS heads e)) (findS heads e)).2]) h') :
  AC Tryz.prog 13 [.ptr (some ⟨p, 0⟩), .ptr (some ⟨sp, 0⟩), entV e] h Q := ac13 (by
 unfold vc13 PNew
 dsimp only
 have few := W.few
 have x8 : Ext h (h ++ [Blk.cells [.int .i64 e.1, .int .i64 e.2.1, .int .i64 e.2.2.1, .int .i64 e.2.2.2] true]) := .app _ _
 have l8 : (h ++ [Blk.cells [.int .i64 e.1, .int .i64 e.2.1, .int .i64 e.2.2.1, .int .i64 e.2.2.2] true]).length = h.length + 1 := by simp
 have b8 : (h ++ [Blk.cells [.int .i64 e.1, .int .i64 e.2.1, .int .i64 e.2.2.1, .int .i64 e.2.2.2] true])[h.length]? = some (.cells (entE.f e) true) := by simp [entE]
 generalize h ++ [Blk.cells [.int .i64 e.1, .int .i64 e.2.1, .int .i64 e.2.2.1, .int .i64 e.2.2.2] true] = h8 at *
 refine vif_mk (fun g => by simp at g) (fun _ => vif_mk (fun g => by simp at g) (fun _ => ?_))
 have c8 : ∀ {hX : Heap}, Ext h8 hX → cellsAt hX ⟨h.length, 0⟩ 4 = some (entE.f e) := fun x => cellsAt_mk (p := ⟨h.length, 0⟩) (x _ _ b8) (by simp [entE])
 refine ⟨e.1, e.2.1, e.2.2.1, e.2.2.2, c8 (.refl _), ?_⟩
 have C8 := C0.grow x8
 refine k43 (e := e) (C8.seg W) (C8.hds W) W.so (by omega) fun h14 x14 => ⟨_, rfl, ?_⟩
 have C14 := C8.grow x14
 generalize hi0 : findS heads e = i0
 have x17 : Ext h14 (h14 ++ [curC p sp i0 none 0 0]) := .app _ _
 have b17 : (h14 ++ [curC p sp i0 none 0 0])[h14.length]? = some (curC p sp i0 none 0 0) := by simp
 have l17 : (h14 ++ [curC p sp i0 none 0 0]).length = h14.length + 1 := by simp
 generalize hh17 : h14 ++ [curC p sp i0 none 0 0] = h17 at *
 generalize hcb : h14.length = cb at *
 have x14h := x14.len
 have x8h := x8.len
 refine store6 (o := 0) (c := [.ptr none]) (p := h17.length) (h := h17 ++ [Blk.cells [.ptr none] true]) (by simp) (by simp) ?_
 rw [show splice [AV.ptr none] 0 [.ptr (some ⟨cb, 0⟩)] = [AV.ptr (some ⟨cb, 0⟩)] from rfl]
 have x20 : Ext h17 ((h17 ++ [Blk.cells [.ptr none] true]).set h17.length (.cells [.ptr (some ⟨cb, 0⟩)] true)) := fun b B hB => by
  have := lt_of_get hB
  rw [List.getElem?_set, if_neg (by omega), List.getElem?_append_left this]; exact hB
 have b20 : ((h17 ++ [Blk.cells [.ptr none] true]).set h17.length (.cells [.ptr (some ⟨cb, 0⟩)] true))[h17.length]? = some (.cells [.ptr (some ⟨cb, 0⟩)] true) := List.getElem?_set_self (by simp)
 have l20 : ((h17 ++ [Blk.cells [.ptr none] true]).set h17.length (.cells [.ptr (some ⟨cb, 0⟩)] true)).length = h17.length + 1 := by simp
 generalize (h17 ++ [Blk.cells [.ptr none] true]).set h17.length (.cells [.ptr (some ⟨cb, 0⟩)] true) = h20 at *
 generalize ha6 : h17.length = a6 at *
 have xx := x17.trans x20
 have C20 : CP (fun b => z b ∨ b = cb) hW h20 p fb mb P N := C14.more xx (by omega) (by omega)
 have c6 : cellsAt h20 ⟨a6, 0⟩ 1 = some [.ptr (some ⟨cb, 0⟩)] := cellsAt_mk (p := ⟨a6, 0⟩) b20 (by simp)
 have plt : ∀ b, pbl p fb mb b → b < h.length := fun b hb => C0.pool_lt hb
 have hWl := C0.xl
 have S20 : NewS z hW h20 sp p fb mb cb a6 h.length i0 e P N := ⟨C20, ⟨none, 0, 0, x20 _ _ b17⟩, c6, c8 (x14.trans xx), ⟨by omega, fun hc => by have := plt _ hc; omega⟩, ⟨by omega, fun hc => by have := plt _ hc; omega⟩, by omega⟩
 refine k21 (C20.seg W) (C20.hds W) ⟨_, rfl, vif_mk (fun g => ?_) (fun g => ?_)⟩
 ·have g : heads.length = 0 := by
   have : ((heads.length : Nat) : Int) = 0 := by simpa using g
   omega
  have hg0 : gs = [] := by
   cases gs with
   | nil => rfl
   | cons a l => have := G.len; simp [g] at this
  have ht : tailL r (gs.drop i0) i0 = ([], 0) := tail_end (by rw [hg0]; simp)
  rw [hi0, ht] at h0
  refine ⟨_, c6, h0 (.inr rfl) cb h20 P N (.inr ⟨rfl, i0, ⟨C20, ⟨none, x20 _ _ b17, rfl, by simp⟩, .inr rfl, by omega⟩, F⟩) (by omega) (keeps_of_ext (x8.trans (x14.trans xx))) (by omega) (by omega)⟩
 have hpos : 0 < heads.length := by
  rcases Nat.eq_zero_or_pos heads.length with h0 | h0
  ·rw [h0] at g; simp at g
  ·exact h0
 have K20 : Keeps (pbl p fb mb) h h20 := keeps_of_ext (x8.trans (x14.trans xx))
 have hi0l : i0 < heads.length := by
  rw [← hi0]
  unfold findS
  have := List.length_filter_le (fun h => decide (ltE h e)) heads
  omega
 rw [hi0] at h0 h1
 generalize hL0 : (tailL r (gs.drop i0) i0).1 = L0 at *
 generalize hE0 : (tailL r (gs.drop i0) i0).2 = E0 at *
 refine ⟨fun xs h27 => xs = [] ∧ ∃ (i : Nat) (P : PS) (NN : Nat), NewS z hW h27 sp p fb mb cb a6 h.length i e P NN ∧ HP fl n C P ∧ i < heads.length ∧ i0 ≤ i ∧ NN ≤ N + (i - i0) ∧ (fromL (tailL r (gs.drop i) i).1 e = fromL L0 e ∧ (tailL r (gs.drop i) i).2 = E0) ∧ Keeps (pbl p fb mb) h h27 ∧ h.length ≤ h27.length,
  fun _ h27 => match h27[cb]? with | some (.cells [_, _, .int _ i, _, _, _] _) => (heads.length - i).toNat | _ => 0, ⟨rfl, i0, P, N, S20, F, hi0l, by omega, by omega, ⟨by rw [hL0], hE0⟩, K20, by omega⟩, ?_⟩
 rintro h27 ⟨_, i, P1, N1, S27, F27, hi, hi0i, hN1, ⟨ahL, ahE⟩, K27, l27⟩
 obtain ⟨ql27, at27, e27, hc27⟩ := S27.cell
 refine ⟨_, S27.c6, ?_⟩
 have hg : gs[i]? = some (gs[i]'(by rw [G.len]; exact hi)) := List.getElem?_eq_getElem _
 generalize gs[i]'(by rw [G.len]; exact hi) = pgl at hg
 refine new_page S27 W G O F27 hi (by omega) hg (fun hr P2 h30 S30 H30 c630 c830 K30 l30 => ⟨_, rfl, vif_mk (fun g => by simp at g) (fun _ => ?_)⟩) (fun hr h30 S30 K30 l30 => ⟨_, rfl, vif_mk (fun _ => ?_) (fun g => absurd (by simpa using g) hr)⟩)
 rotate_left
 ·have ht := tail_bad (gs := gs) (by rw [G.len]; exact hi) hr
  rw [ht] at ahL ahE
  have hnil : fromL L0 e = [] := by rw [← ahL]; rfl
  have hE : E0 = r i := ahE.symm
  rw [hE] at h1
  exact h1 hnil hr h30 _ P1 (N1 + 1) S30.C F27 (fun b hb => .inl hb) (by omega) (fun b B hb hB => K30 _ _ (fun hc => by
   rcases hc with hc | hc
   ·exact hb hc
   ·have := lt_of_get hB; omega) (K27 _ _ hb hB)) (by omega)
 have ht := tail_at hg hr
 rw [ht] at ahL ahE
 simp only at ahL ahE
 obtain ⟨ql, hc30, Hl, hql⟩ := S30.cell
 have l10 := gp_len G hg
 refine ⟨_, c630, _, c630, ⟨_, cur_at hc30 (k := 3) rfl, ?_⟩⟩
 rw [Hl.len]
 have hsg : SortedL pgl := by
  have hs2 := hso
  rw [gs_split hg] at hs2
  exact (List.pairwise_append.1 (List.pairwise_append.1 hs2).2.1).1
 refine c45 c630 c830 hc30 Hl hsg (by omega) fun k h37 x37 hk hlo hhi => ⟨_, rfl, ⟨_, x37.cells c630, rfl⟩, ?_⟩
 have S37 := S30.grow x37
 have hc37 := x37 _ _ hc30
 have hl37 := lt_of_get hc37
 refine store6v (o := 4) hc37 (by simp) ?_
 rw [show splice [AV.ptr (some ⟨p, 0⟩), .ptr (some ⟨sp, 0⟩), .int .i64 (i : Nat), .sl ql, .int .i64 ((0 : Nat) : Int), .int .i64 0] 4 [.int .i64 (k : Nat)] = [AV.ptr (some ⟨p, 0⟩), .ptr (some ⟨sp, 0⟩), .int .i64 (i : Nat), .sl ql, .int .i64 (k : Nat), .int .i64 0] from rfl]
 have K40 : Keeps (fun b => b = cb) h37 (h37.set cb (curC p sp i ql (k : Nat) 0)) := keeps_set rfl
 have hc40 : (h37.set cb (curC p sp i ql (k : Nat) 0))[cb]? = some (curC p sp i ql (k : Nat) 0) := List.getElem?_set_self hl37
 have l40 : (h37.set cb (curC p sp i ql (k : Nat) 0)).length = h37.length := List.length_set
 have S40 : CS (fun b => z b ∨ b = cb) hW (h37.set cb (curC p sp i ql (k : Nat) 0)) sp p fb mb cb i pgl k 0 P2 (N1 + 1) :=
  ⟨S37.C.other K40 (fun b hb => .inr hb) (fun b hb => by rw [hb]; exact S37.nw) (by omega), ⟨ql, hc40, K40.hasL (fun t ht hb => (hql t ht).1 (.inr hb)) (Hl.mono x37), hql⟩, .inr rfl, S37.nw⟩
 have c640 := cells_keep K40 (fun hb => S20.n6.1 hb) (x37.cells c630)
 have c840 := cells_keep K40 (fun hb => S20.n8.1 hb) (x37.cells c830)
 generalize h37.set cb (curC p sp i ql (k : Nat) 0) = h40 at *
 have x37l := x37.len
 have hcbl : h.length ≤ cb := by omega
 have KA : ∀ {h9 : Heap}, Keeps (fun b => pbl p fb mb b ∨ b = cb) h40 h9 → Keeps (pbl p fb mb) h h9 := fun {h9} K b B hb hB => by
  have hbl := lt_of_get hB
  exact K _ _ (fun hc => by rcases hc with hc | hc; exact hb hc; omega) (K40 _ _ (fun hc => by have hc : b = cb := hc; omega) (x37 _ _ (K30 _ _ (fun hc => by rcases hc with hc | hc; exact hb hc; omega) (K27 _ _ hb hB))))
 refine ⟨_, c640, ⟨_, cur_at hc40 (k := 4) rfl, _, c640, ⟨_, cur_at hc40 (k := 3) rfl, ?_⟩⟩⟩
 rw [Hl.len]
 have hlo' : ∀ y ∈ pgl.take k, ltE y e := fun y hy => by
  obtain ⟨j, hj⟩ := List.getElem?_of_mem hy
  rw [List.getElem?_take] at hj
  split at hj
  ·rename_i hjk; exact hlo j y hjk hj
  ·cases hj
 obtain ⟨P3, f3, F3⟩ := H30.free S40.C.ok
 have hskip : ∀ X : List Ent, fromL (pgl ++ X) e = fromL (pgl.drop k ++ X) e := fun X => by
  have := fromL_skip (b := pgl.drop k ++ X) hlo'
  rw [← List.append_assoc, List.take_append_drop] at this
  exact this
 refine vif_mk (fun g2 => ?_) (fun g2 => ?_)
 ·replace g2 := of_decide_eq_true g2
  have hkl : k < pgl.length := by omega
  have hx := List.getElem?_eq_getElem hkl
  have hfr : fromL L0 e = pgl.drop k ++ (tailL r (gs.drop (i + 1)) (i + 1)).1 := by
   rw [← ahL, hskip, drop_cons hkl, List.cons_append]
   exact fromL_here (a := []) (by simp) (hhi k _ (Nat.le_refl _) hx)
  exact ⟨_, c640, h0 (.inl (by rw [hfr, drop_cons hkl, List.cons_append]; exact List.cons_ne_nil _ _)) cb h40 P2 (N1 + 1) (.inl ⟨i, k, pgl, S40, H30, hg, hkl, hfr, ahE.symm, rfl⟩) (by omega) (KA (.refl _ _)) (by omega) hcbl⟩
 replace g2 := of_decide_eq_false g2
 have hke : k = pgl.length := by omega
 have ah1 : fromL (tailL r (gs.drop (i + 1)) (i + 1)).1 e = fromL L0 e := by
  rw [← ahL, hskip, hke, List.drop_length, List.nil_append]
 refine ⟨_, c640, ⟨_, cur_at hc40 (k := 2) rfl, ?_⟩⟩
 refine k21 (S40.C.seg W) (S40.C.hds W) ⟨_, rfl, ⟨_, cur_at hc40 (k := 2) rfl, rfl⟩, ⟨_, c640, rfl⟩, ?_⟩
 rw [wrapK_i64 ⟨by omega, by omega⟩]
 refine vif_mk (fun g3 => ?_) (fun g3 => ?_)
 ·replace g3 := of_decide_eq_true g3
  refine ⟨_, c640, c20 S40 W (G.ne _ (List.mem_of_getElem? hg)) (by omega) f3 fun h56 S56 K56 l56 => ⟨rfl, _, cells_keep K56 (fun hc => by rcases hc with hc | hc; exact S20.n6.2 hc; exact S20.n6.1 hc) c640, ?_⟩⟩
  have hte : tailL r (gs.drop (i + 1)) (i + 1) = ([], 0) := tail_end (by rw [G.len]; omega)
  rw [hte] at ah1 ahE
  exact h0 (.inr ahE.symm) cb h56 P3 (N1 + 1) (.inr ⟨ah1.symm, i, S56, F3⟩) (by omega) (KA K56) (by omega) hcbl
 replace g3 := of_decide_eq_false g3
 refine ⟨_, c640, c48 S40.C W hc40 (.inr rfl) S40.nw (by omega) f3 fun h60 C60 hc60 K60 l60 => ⟨rfl, _, cells_keep K60 (fun hc => by rcases hc with hc | hc; exact S20.n6.2 hc; exact S20.n6.1 hc) c640, ⟨_, cur_at hc60 (k := 2) rfl, ?_⟩⟩⟩
 have hl60 := lt_of_get hc60
 refine store6v (o := 2) hc60 (by simp) ?_
 rw [wrapK_i64 ⟨by omega, by omega⟩, show splice [AV.ptr (some ⟨p, 0⟩), .ptr (some ⟨sp, 0⟩), .int .i64 (i : Nat), .sl none, .int .i64 (k : Nat), .int .i64 0] 2 [.int .i64 ((i : Int) + 1)] = [AV.ptr (some ⟨p, 0⟩), .ptr (some ⟨sp, 0⟩), .int .i64 ((i + 1 : Nat) : Int), .sl none, .int .i64 (k : Nat), .int .i64 0] from rfl]
 have K65 : Keeps (fun b => b = cb) h60 (h60.set cb (curC p sp (i + 1) none (k : Nat) 0)) := keeps_set rfl
 have hc65 : (h60.set cb (curC p sp (i + 1) none (k : Nat) 0))[cb]? = some (curC p sp (i + 1) none (k : Nat) 0) := List.getElem?_set_self hl60
 have l65 : (h60.set cb (curC p sp (i + 1) none (k : Nat) 0)).length = h60.length := List.length_set
 have c665 := cells_keep K65 (fun hb => S20.n6.1 hb) (cells_keep K60 (fun hc => by rcases hc with hc | hc; exact S20.n6.2 hc; exact S20.n6.1 hc) c640)
 have c865 := cells_keep K65 (fun hb => S20.n8.1 hb) (cells_keep K60 (fun hc => by rcases hc with hc | hc; exact S20.n8.2 hc; exact S20.n8.1 hc) c840)
 have C65 := C60.other K65 (fun b hb => .inr hb) (fun b hb => by rw [hb]; exact S37.nw) (by omega)
 refine ⟨trivial, ⟨rfl, i + 1, P3, N1 + 1, ⟨C65, ⟨_, _, _, hc65⟩, c665, c865, S20.n6, S20.n8, S37.nw⟩, F3, by omega, by omega, by omega, ⟨ah1, ahE⟩, KA (fun b B hb hB => K65 _ _ (fun hc => hb (.inr hc)) (K60 _ _ hb hB)), by rw [List.length_set]; omega⟩, ?_⟩
 simp only
 rw [hc65, hc27]
 simp only
 omega)
end
end Go.Proofs.YtankijamfedliaaGreatDoor

namespace Go.Proofs.YtankijamfedliaaGreatDoor
open Go.Ab
open Go.Num hiding Bs snoc_ind
open Go.Ent Go.Seg
open Go.Page hiding Bs get
open Go.Dsk hiding Bs
open Go.Man (pendsOf pendsOf_snoc keepAll_pends notB_all find_of pendsOf_b)
set_option linter.unusedVariables false
set_option linter.unusedSimpArgs false
section
attribute [local irreducible] momErr recErr
section
variable {h : Heap} {Q : AV → Heap → Prop} {ow : Roles} {p : Nat} {D : DS}
end
end
end Go.Proofs.YtankijamfedliaaGreatDoor
namespace Go.Proofs.YtankijamfedliaaGreatDoor
open Go.Ab
open Go.Num hiding Bs snoc_ind
open Go.Ent Go.Seg
open Go.Page hiding Bs get
open Go.Dsk hiding Bs
set_option linter.unusedVariables false
set_option linter.unusedSimpArgs false
theorem mayE_perm {l m : List Ent} (hp : l.Perm m) (h : mayE l = 0) : mayE m = 0 := by
 obtain ⟨a, b⟩ := mayE_ok.1 h
 exact mayE_ok.2 ⟨fun e he => a e (hp.mem_iff.2 he), by rw [← hp.length_eq]; exact b⟩
theorem sort_may {l : List Ent} (h : mayE l = 0) : mayE (sortE l) = 0 := mayE_perm (sortE_perm l).symm h
theorem sort_len {l : List Ent} : (sortE l).length = l.length := (sortE_perm l).length_eq
theorem mayS_ok {base : Nat} {l : List Ent} (hb : baseOk base = true) (hm : mayE l = 0) (hs : SortedL l) : mayS base l = 0 := by
 unfold mayS
 rw [hb, if_neg (by simp), if_neg (by simp [hm]), if_pos hs]
theorem map_pad : ∀ {l : List Bs}, (∀ x ∈ l, x.length = 64) → l.map pad = l
 | [], _ => rfl
 | y :: l, h => by rw [List.map_cons, pad_self (h y (by simp)), map_pad (fun x hx => h x (by simp [hx]))]
theorem lies_one {b : Nat} {s : Bs} {S T : List Bs} {ps : List PD} {lim : Int} (h64 : ∀ x ∈ S, x.length = 64) : Lies (oneD ⟨b, s, S, T⟩ ps lim) s S :=
 ⟨rfl, ⟨b, s, S, T⟩, oneD_find (f := ⟨b, s, S, T⟩), (map_pad h64).symm⟩
section
variable {h : Heap} {Q : AV → Heap → Prop}
end
end Go.Proofs.YtankijamfedliaaGreatDoor
namespace Go.Proofs.YtankijamfedliaaGreatDoor
open Go.Ab
open Go.Num hiding Bs snoc_ind
open Go.Ent Go.Seg Go.Cur
open Go.Page hiding Bs get
open Go.Dsk hiding Bs
open Go.Pool hiding Bs Ents set_at Fr least
set_option linter.unusedVariables false
set_option linter.unusedSimpArgs false
structure FileC (h : Heap) (ow : Roles) (w dp sp p fb mb n : Nat) (qt q : Option SL) (f : FA) (l : List Ent) : Prop where
 laid : Laid h
 cell : h[w]? = some (.cells [.ptr (some ⟨dp, 0⟩), .ptr (some ⟨sp, 0⟩), .ptr (some ⟨p, 0⟩), .sl qt] true)
 disk : DiskR h ow dp (oneD f [] 16384)
 name : f.name = [115]
 safe : f.now = f.safe
 pool : PoolR (entZ fun _ => True) h p fb mb (newP n)
 at' : h[sp]? = some (segC dp [115] 7 l.length q)
 hd : HasL entE h q (headsG (packG l))
 lst : HasL entE h qt l
 ok : ∀ e ∈ l, entOk e = true
 few : l.length ≤ 500
 so : SortedL l
 o0 : ow 0 = none ∧ ow 1 = none ∧ ow sp = none ∧ ow w = none ∧ (∀ t, q = some t → ow t.b = none) ∧ (∀ t, qt = some t → ow t.b = none)
 op : ∀ b, pbl p fb mb b → ow b = none ∧ b ≠ 0 ∧ b ≠ 1 ∧ b ≠ sp ∧ b ≠ w ∧ (∀ t, q = some t → b ≠ t.b) ∧ (∀ t, qt = some t → b ≠ t.b) ∧ b < h.length
section
variable {h h' : Heap} {Q : AV → Heap → Prop} {ow : Roles} {w dp sp p fb mb n : Nat} {qt q : Option SL} {f : FA} {l : List Ent}
theorem new_wrote {q : Option SL} {l : List Ent} {base : Nat} {K : AV → Heap → Prop} {ow : Roles} {dp : Nat} (L : Laid h) (R : DiskR h ow dp (emptyD 16384)) (H : HasL entE h q (sortE l)) (hl : l.length ≤ 700) (hm : mayE l = 0) (b1 : 1 ≤ base) (b2 : base ≤ 2305843009213693952)
  (hK : ∀ b h' ow', DiskR h' ow' dp (oneD ⟨b, [115], sectors base (sortE l), sectors base (sortE l)⟩ [] 16384) → DStep ow h ow' h' → K (.int .i64 0) h') :
  AC Tryz.prog 40 [.ptr (some ⟨dp, 0⟩), .str [115], .int .i64 (base : Nat), .sl q] h K := by
 have hms := sort_may hm
 obtain ⟨hok, hlm⟩ := mayE_ok.1 hms
 have hbo : baseOk (base : Int) = true := decide_eq_true ⟨by omega, by omega⟩
 refine k40 (lim := 16384) rfl (by omega) L R H (by rw [sort_len]; omega) (fun hn => absurd (mayS_ok hbo hms (sortE_sorted l)) hn) fun base' he _ _ _ _ b h' ow' R' S' => ?_
 obtain rfl : base = base' := by omega
 have hw : wrD b [115] (sectors base (sortE l)) 16384 = (0, oneD ⟨b, [115], sectors base (sortE l), sectors base (sortE l)⟩ [] 16384) := by
  unfold wrD
  rw [if_pos]
  ·rfl
  ·rw [sectors_len]
   have := packG_len hok; have := idx_len hok
   rw [sort_len] at *; omega
 rw [hw] at R' ⊢
 exact hK b h' ow' R' S'
set_option maxHeartbeats 1000000 in
theorem c11x (L : Laid h) (H : HasL entE h q l) (hl : l.length ≤ 500) (hm : mayE l = 0) (hn : n ≤ 1024)
  (hQ : ∀ w h' ow dp sp p fb mb qt qh b, FileC h' ow w dp sp p fb mb n qt qh ⟨b, [115], sectors 7 (sortE l), sectors 7 (sortE l)⟩ (sortE l) → Ext h h' → (∀ b, ow b ≠ none → h.length ≤ b) → (∀ b, pbl p fb mb b → h.length ≤ b) → Q (.ptr (some ⟨w, 0⟩)) h') :
  AC Tryz.prog 11 [.sl q, .int .i64 (n : Nat)] h Q := ac11 (by
 unfold vc11
 have hms := sort_may hm
 obtain ⟨hok, hlm⟩ := mayE_ok.1 hms
 have hso := sortE_sorted l
 have hsl : (sortE l).length = l.length := sort_len
 have hL1 := L.len
 refine d37 (by omega) (by omega) fun ow R0 B0 => ⟨_, _, rfl, ?_⟩
 have x1 : Ext h (h ++ [Blk.mp [] 0] ++ [Blk.cells [.map (some h.length), .sl none, .int .i64 16384, .int .i64 (-1), .bool false] true]) := (Ext.app _ _).trans (Ext.app _ _)
 generalize h ++ [Blk.mp [] 0] ++ [Blk.cells [.map (some h.length), .sl none, .int .i64 16384, .int .i64 (-1), .bool false] true] = h1 at *
 generalize h.length + 1 = dp at *
 refine k38 (z := fun _ => True) hn fun h2 C2 x2 => ⟨_, _, rfl, ?_⟩
 have ownlive := R0.live
 have R2 := R0.grow x2
 have x12 := x1.trans x2
 have pb2 : ∀ b, pbl (h1.length + 2) h1.length (h1.length + 1) b → h1.length ≤ b ∧ b < h2.length := fun b hb => by
  have p1 := lt_of_get C2.pb
  rcases hb with rfl | rfl | rfl <;> omega
 refine z39 l.length (Nat.le_refl _) (H.mono x12) (by omega) fun q13 h12 N13 => ⟨q13, rfl, ?_⟩
 have x13 := x12.trans N13.1
 have L12 := L.ext x13
 refine vif_mk (fun g => by simp at g) (fun _ => vif_mk (fun g => by simp at g) (fun _ => vif_mk (fun g => by simp at g) (fun _ => vif_mk (fun g => by simp at g) (fun _ => ?_))))
 have nl12 := N13.1.len
 have l12 := x1.len
 refine new_wrote (base := 7) L12 (R2.grow N13.1) N13.hasL (by omega) hm (by omega) (by omega) fun b h15 ow15 R15 S15 => ⟨_, rfl, vif_mk (fun g => by simp at g) (fun _ => ?_)⟩
 have H15 : HasL entE h15 q13 (sortE l) := S15.keeps.hasL (fun t ht hc => by have := N13.2.2 t ht; have := ownlive _ hc; have := x2.len; omega) N13.hasL
 have L15 : Laid h15 := L12.keeps S15.keeps (fun hc => by have := B0 _ hc; omega) (fun hc => by have := B0 _ hc; omega)
 have np15 : ∀ b, pbl (h1.length + 2) h1.length (h1.length + 1) b → ow15 b = none := fun b hb => by
  cases ho : ow15 b with
  | none => rfl
  | some x =>
   rcases S15.own b (by rw [ho]; simp) with hc | hc
   ·have := ownlive _ hc; have := (pb2 b hb).1; omega
   ·have := (pb2 b hb).2; omega
 have C12 : PoolR (entZ fun _ => True) h12 (h1.length + 2) h1.length (h1.length + 1) (newP n) := PoolR.ext ⟨_, _, _, C2⟩ N13.1
 have npd : ∀ b, pbl (h1.length + 2) h1.length (h1.length + 1) b → ¬ dsk ow b := fun b hb hc => by have := ownlive _ hc; have := (pb2 b hb).1; omega
 have P15 : PoolR (entZ fun _ => True) h15 (h1.length + 2) h1.length (h1.length + 1) (newP n) := by
  obtain ⟨rs, es, cl, C⟩ := C12
  exact ⟨rs, es, cl, C.keepsZ S15.keeps (fun _ _ => trivial) ⟨npd _ (.inl rfl), npd _ (.inr (.inl rfl)), npd _ (.inr (.inr rfl))⟩⟩
 generalize hS : sectors 7 (sortE l) = S at *
 have h64 : ∀ x ∈ S, x.length = 64 := by rw [← hS]; exact sectors_len64 hok hlm
 have hSl : S.length ≤ 2000 := by
  rw [← hS, sectors_len]
  have := packG_len hok; have := idx_len hok; omega
 have Z : Lies (oneD ⟨b, [115], S, S⟩ [] 16384) [115] S := lies_one h64
 have hop : openS S 7 = some ((sortE l).length, headsG (packG (sortE l))) := by rw [← hS]; exact openS_sectors hok hlm hso
 refine k41 (base := 7) L15 R15 Z (by omega) (by omega) (by omega) (fun hn => by rw [hop] at hn; cases hn) fun c heads sp qh h18 ho O => ⟨_, _, rfl, vif_mk (fun g => by simp at g) (fun _ => vif_mk (fun g => by simp at g) (fun _ => ?_))⟩
 rw [hop] at ho; cases ho
 unfold PNew
 have x22 : Ext h18 (h18 ++ [Blk.cells [.ptr (some ⟨dp, 0⟩), .ptr (some ⟨sp, 0⟩), .ptr (some ⟨h1.length + 2, 0⟩), .sl q13] true]) := .app _ _
 have b22 : (h18 ++ [Blk.cells [.ptr (some ⟨dp, 0⟩), .ptr (some ⟨sp, 0⟩), .ptr (some ⟨h1.length + 2, 0⟩), .sl q13] true])[h18.length]? = some (.cells [.ptr (some ⟨dp, 0⟩), .ptr (some ⟨sp, 0⟩), .ptr (some ⟨h1.length + 2, 0⟩), .sl q13] true) := by simp
 have l22 : (h18 ++ [Blk.cells [.ptr (some ⟨dp, 0⟩), .ptr (some ⟨sp, 0⟩), .ptr (some ⟨h1.length + 2, 0⟩), .sl q13] true]).length = h18.length + 1 := by simp
 generalize hh22 : h18 ++ [Blk.cells [.ptr (some ⟨dp, 0⟩), .ptr (some ⟨sp, 0⟩), .ptr (some ⟨h1.length + 2, 0⟩), .sl q13] true] = h22 at *
 have y := O.keep.trans x22
 have olive := R15.live
 have l15 := S15.len
 have x2l0 := x2.len
 have l18 := O.keep.len
 have onew := O.new
 have own0 : ∀ b, ow15 b ≠ none → h.length ≤ b := fun b hb => by
  rcases S15.own b hb with hc | hc
  ·exact B0 b hc
  ·omega
 have no : ∀ b, b < h.length ∨ h15.length ≤ b → ow15 b = none := fun b hb => by
  cases ho : ow15 b with
  | none => rfl
  | some x =>
   have a1 := own0 b (by rw [ho]; simp)
   have a2 := olive b (by rw [ho]; simp)
   omega
 have nq13 : ∀ t, q13 = some t → h2.length ≤ t.b ∧ t.b < h12.length ∧ ow15 t.b = none := fun t ht => by
  have a1 := N13.2.2 t ht
  have a2 := HasL.live N13.hasL t ht
  refine ⟨a1, a2, ?_⟩
  cases ho : ow15 t.b with
  | none => rfl
  | some x =>
   rcases S15.own t.b (by rw [ho]; simp) with hc | hc
   ·have := ownlive _ hc; have := x2.len; omega
   ·omega
 have x2l := x2.len
 refine hQ h18.length h22 ow15 dp sp (h1.length + 2) h1.length (h1.length + 1) q13 qh b ⟨L15.ext y, b22, R15.grow y, rfl, rfl, PoolR.ext P15 y, x22 _ _ O.at', O.hd.hasL.mono x22, H15.mono y, hok, by omega, hso, ⟨no _ (.inl (by omega)), no _ (.inl (by omega)), no _ (.inr (by omega)), no _ (.inr (by omega)), fun t ht => no _ (.inr (O.hq t ht)), fun t ht => (nq13 t ht).2.2⟩, fun k hk => ?_⟩ (fun B o hB => ?_) own0 (fun b hb => by have := (pb2 b hb).1; omega)
 ·have := pb2 k hk
  exact ⟨np15 k hk, by omega, by omega, by omega, by omega, fun t ht => by have := O.hq t ht; omega, fun t ht => by have := nq13 t ht; omega, by omega⟩
 ·have hlt := lt_of_get hB
  exact y _ _ (S15.keeps _ _ (fun hc => by have := B0 _ hc; omega) (x13 _ _ hB)))
theorem FileC.cp (F : FileC h ow w dp sp p fb mb n qt q f l) : CP (fun _ => False) h h p fb mb (newP n) 0 := by
 obtain ⟨rs, es, cl, C⟩ := F.pool
 exact ⟨.refl _ _, Nat.le_refl _, ⟨rs, es, cl, C.more (z := fun _ => False) fun _ hb => hb.elim⟩, sm_new, fun _ hb => hb.elim, fun _ hb => hb.elim⟩
theorem FileC.cw {D : DS} {S : List Bs} (F : FileC h ow w dp sp p fb mb n qt q f l) (L : Laid h') (R : DiskR h' ow dp D) (Z : Lies D [115] S) (hS : S.length ≤ 16384) (hh : (headsG (packG l)).length ≤ S.length) (K : Keeps (dsk ow) h h') (hl : h.length ≤ h'.length) (fl : Nat → Int × List Ent)
  (hf : ∀ i, i < (headsG (packG l)).length → fl i = match pageS S 7 (headsG (packG l)) i with | some g => (0, g) | none => (80, [])) (h10 : ∀ i, (fl i).2.length ≤ 10) :
  CW h' dp sp p fb mb [115] 7 l.length q (headsG (packG l)) fl where
 laid := L
 nl := ⟨fun hb => (F.op _ hb).2.1 rfl, fun hb => (F.op _ hb).2.2.1 rfl⟩
 np := fun hb => (F.op _ hb).2.2.2.1 rfl
 nq := fun t ht hb => (F.op _ hb).2.2.2.2.2.1 t ht rfl
 at' := K _ _ (fun hc => hc F.o0.2.2.1) F.at'
 hd := K.hasL (fun t ht hc => hc (F.o0.2.2.2.2.1 t ht)) F.hd
 few := by
  have h1 : (headsG (packG l)).length = (packG l).length := headsG_len fun g hg => (packG_fit F.ok g hg).1
  have := packG_len F.ok; have := F.few; omega
 so := by
  have := headsG_sorted (gs := packG l) (by rw [packG_flat]; exact F.so)
  exact this
 short := h10
 page := fun i hi h2 K2 k2 l2 hE hK => by
  have hfi := hf i hi
  have nopl : ∀ b, pbl p fb mb b → ow b = none := fun b hb => (F.op b hb).1
  have K3 : Keeps (fun b => ow b = none) h' h2 := fun b B hb hB => k2 _ _ (fun hc => hb (nopl b hc)) hB
  refine k55 (base := 7) (L.keeps k2 (fun hb => (F.op _ hb).2.1 rfl) (fun hb => (F.op _ hb).2.2.1 rfl)) (R.ext K3 l2) Z (by omega) (by omega) hS (k2 _ _ (fun hb => (F.op _ hb).2.2.2.1 rfl) (K _ _ (fun hc => hc F.o0.2.2.1) F.at')) (k2.hasL (fun t ht hb => (F.op _ hb).2.2.2.2.2.1 t ht rfl) (K.hasL (fun t ht hc => hc (F.o0.2.2.2.2.1 t ht)) F.hd)) hh hi (fun hn h3 x3 => ?_) (fun g q' h3 hg x3 A3 f3 => ?_)
  ·rw [hn] at hfi
   simp only at hfi
   rw [hfi] at hE
   exact hE (by simp) h3 x3
  ·rw [hg] at hfi
   simp only at hfi
   rw [hfi] at hK
   exact hK rfl q' h3 x3 A3.hasL f3
end
end Go.Proofs.YtankijamfedliaaGreatDoor

namespace Go.Proofs.YtankijamfedliaaGreatDoor
open Go.Ab
open Go.Num hiding Bs snoc_ind
open Go.Ent Go.Seg Go.Cur
open Go.Page hiding Bs get
open Go.Dsk hiding Bs
open Go.Pool hiding Bs Ents set_at Fr least
set_option linter.unusedVariables false
set_option linter.unusedSimpArgs false
theorem gp_of {l : List Ent} (hok : ∀ e ∈ l, entOk e = true) : GP (headsG (packG l)) (packG l) :=
 ⟨(heads_len hok).symm, fun g hg => (packG_fit hok g hg).1, fun g hg => by
  obtain ⟨i, hi⟩ := List.getElem?_of_mem hg
  exact packG_ten hok hi⟩
theorem file_fit {l : List Ent} (hok : ∀ e ∈ l, entOk e = true) (hl : l.length ≤ 500) : (∀ x ∈ sectors 7 l, x.length = 64) ∧ (sectors 7 l).length ≤ 16384 ∧ (headsG (packG l)).length ≤ (sectors 7 l).length ∧ (headsG (packG l)).length ≤ 500 := by
 have h1 := packG_len hok
 have h2 := idx_len hok
 have h3 := heads_len hok
 refine ⟨sectors_len64 hok (by omega), ?_, ?_, by omega⟩ <;> rw [sectors_len] <;> omega
section
variable {h h' : Heap} {Q : AV → Heap → Prop} {ow : Roles} {w dp sp p fb mb n b : Nat} {qt q : Option SL} {l : List Ent} {e : Ent}
theorem FileC.at (F : FileC h ow w dp sp p fb mb n qt q ⟨b, [115], sectors 7 l, sectors 7 l⟩ l) (K : Keeps (pbl p fb mb) h h') {k : Nat} {x : AV} (hx : [AV.ptr (some ⟨dp, 0⟩), .ptr (some ⟨sp, 0⟩), .ptr (some ⟨p, 0⟩), .sl qt][k]? = some x) : cellsAt h' ⟨w, 0 + k⟩ 1 = some [x] := by
 have hk : k < 4 := by
  have := (List.getElem?_eq_some_iff.1 hx).1
  simpa using this
 have hc := K _ _ (fun hb => (F.op _ hb).2.2.2.2.1 rfl) F.cell
 rw [cells6 hc (by simp only [List.length_cons, List.length_nil]; omega)]
 match k, hk with
 | 0, _ | 1, _ | 2, _ | 3, _ => cases hx; rfl
end
theorem out_bad {l : List Ent} {n k : Nat} {C : List Pg} {s : Bs} (hd : dist C < n) : Out (fun _ => flB l k) n C s (packG l) (rB k) := fun i g hg => by
 unfold rB flB
 by_cases h : i = k
 ·right
  rw [if_pos h]
  exact ⟨by decide, .inl (by simp only; rw [if_pos h])⟩
 ·left
  rw [if_neg h]
  exact ⟨rfl, by simp only; rw [if_neg h]; exact flG_get hg, .inr hd⟩
section
variable {h h' : Heap} {Q : AV → Heap → Prop} {ow ow' : Roles} {w dp sp p fb mb n b : Nat} {qt q : Option SL} {l : List Ent} {e : Ent} {f f' : FA}
theorem FileC.atF (F : FileC h ow w dp sp p fb mb n qt q f l) (K : Keeps (pbl p fb mb) h h') {k : Nat} {x : AV} (hx : [AV.ptr (some ⟨dp, 0⟩), .ptr (some ⟨sp, 0⟩), .ptr (some ⟨p, 0⟩), .sl qt][k]? = some x) : cellsAt h' ⟨w, 0 + k⟩ 1 = some [x] := by
 have hk : k < 4 := by
  have := (List.getElem?_eq_some_iff.1 hx).1
  simpa using this
 have hc := K _ _ (fun hb => (F.op _ hb).2.2.2.2.1 rfl) F.cell
 rw [cells6 hc (by simp only [List.length_cons, List.length_nil]; omega)]
 match k, hk with
 | 0, _ | 1, _ | 2, _ | 3, _ => cases hx; rfl
theorem FileC.lst' (F : FileC h ow w dp sp p fb mb n qt q f l) (K : Keeps (pbl p fb mb) h h') : HasL entE h' qt l := K.hasL (fun t ht hb => (F.op _ hb).2.2.2.2.2.2.1 t ht rfl) F.lst
theorem FileC.turn (F : FileC h ow w dp sp p fb mb n qt q f l) (R : DiskR h' ow' dp (oneD f' [] 16384)) (S : DStep ow h ow' h') (h1 : f'.name = [115]) (h2 : f'.now = f'.safe) : FileC h' ow' w dp sp p fb mb n qt q f' l := by
 obtain ⟨a0, a1, a2, a3, a4, a5⟩ := F.o0
 have hlt : ∀ b, ow b = none → b < h.length → ow' b = none := fun b hb hl => by
  cases ho : ow' b with
  | none => rfl
  | some x =>
   rcases S.own b (by rw [ho]; simp) with hc | hc
   ·exact absurd hb hc
   ·omega
 have L := F.laid.len
 have q1 : ∀ t, q = some t → t.b < h.length := fun t ht => HasL.live F.hd t ht
 have q2 : ∀ t, qt = some t → t.b < h.length := fun t ht => HasL.live F.lst t ht
 have kp : ∀ b, ow b = none → ¬ dsk ow b := fun b hb hc => hc hb
 obtain ⟨rs, es, cl, C⟩ := F.pool
 have pk : ∀ b, pbl p fb mb b → ¬ dsk ow b := fun b hb => kp b (F.op b hb).1
 refine ⟨F.laid.keeps S.keeps (kp _ a0) (kp _ a1), S.keeps _ _ (kp _ a3) F.cell, R, h1, h2, ⟨rs, es, cl, C.keepsZ S.keeps (fun _ _ => trivial) ⟨pk _ (.inl rfl), pk _ (.inr (.inl rfl)), pk _ (.inr (.inr rfl))⟩⟩, S.keeps _ _ (kp _ a2) F.at', S.keeps.hasL (fun t ht => kp _ (a4 t ht)) F.hd, S.keeps.hasL (fun t ht => kp _ (a5 t ht)) F.lst, F.ok, F.few, F.so,
  ⟨hlt _ a0 (by omega), hlt _ a1 (by omega), hlt _ a2 (lt_of_get F.at'), hlt _ a3 (lt_of_get F.cell), fun t ht => hlt _ (a4 t ht) (q1 t ht), fun t ht => hlt _ (a5 t ht) (q2 t ht)⟩, fun b hb => ?_⟩
 obtain ⟨b0, b1, b2, b3, b4, b5, b6, b7⟩ := F.op b hb
 have := S.len
 exact ⟨hlt _ b0 b7, b1, b2, b3, b4, b5, b6, by omega⟩
end
end Go.Proofs.YtankijamfedliaaGreatDoor
namespace Go.Proofs.YtankijamfedliaaGreatDoor
open Go.Ab
open Go.Num hiding Bs snoc_ind
open Go.Ent Go.Seg
open Go.Page hiding Bs get
open Go.Dsk hiding Bs
set_option linter.unusedVariables false
set_option linter.unusedSimpArgs false
section
variable {h : Heap} {Q : AV → Heap → Prop}
theorem flip_one {b : Nat} {s x : Bs} {S : List Bs} {i at' turn : Nat} {lim : Int} (hx : S[i]? = some x) : flipD (oneD ⟨b, s, S, S⟩ [] lim) ⟨b, s, S, S⟩ i at' turn = oneD ⟨b, s, S.set i (flip x at' turn), S.set i (flip x at' turn)⟩ [] lim := by
 have hd : S.getD i [] = x := by rw [List.getD_eq_getElem?_getD, hx]; rfl
 unfold flipD oneD flipF upF
 simp [hx]
end
end Go.Proofs.YtankijamfedliaaGreatDoor
namespace Go.Proofs.YtankijamfedliaaGreatDoor
open Go.Ab
open Go.Num hiding Bs snoc_ind
open Go.Ent Go.Seg Go.Cur
open Go.Page hiding Bs get
open Go.Dsk hiding Bs
open Go.Pool hiding Bs Ents set_at Fr least
set_option linter.unusedVariables false
set_option linter.unusedSimpArgs false
section
variable {h h' : Heap} {Q : AV → Heap → Prop} {ow ow' : Roles} {w dp sp p fb mb n b k : Nat} {qt q : Option SL} {l : List Ent} {e : Ent} {s' : Bs}
theorem FileC.bad (F : FileC h ow w dp sp p fb mb n qt q ⟨b, [115], (sectors 7 l).set k s', (sectors 7 l).set k s'⟩ l) (hk : k < (packG l).length) (hs : s'.length = 64) (hg : Go.Page.get s' (7 + k) = none) : CW h dp sp p fb mb [115] 7 l.length q (headsG (packG l)) (flB l k) := by
 obtain ⟨a1, a2, a3, a4⟩ := file_fit F.ok F.few
 refine F.cw F.laid F.disk (lies_one fun x hx => ?_) (by rw [List.length_set]; exact a2) (by rw [List.length_set]; exact a3) (.refl _ _) (Nat.le_refl _) _ (fun i hi => flB_page F.ok F.so hk hg hi) (fun i => flB_ten F.ok)
 rcases List.mem_or_eq_of_mem_set hx with hx | rfl
 ·exact a1 x hx
 ·exact hs
theorem FileC.flipx {K : AV → Heap → Prop} (F : FileC h ow w dp sp p fb mb n qt q ⟨b, [115], sectors 7 l, sectors 7 l⟩ l) (hk : k < (packG l).length) {at' turn : Nat} (ha : at' ≤ 480) (ht0 : turn ≠ 0) (ht : turn < 2 ^ 32)
  (hK : ∀ s' h' ow', s'.length = 64 → Go.Page.get s' (7 + k) = none → FileC h' ow' w dp sp p fb mb n qt q ⟨b, [115], (sectors 7 l).set k s', (sectors 7 l).set k s'⟩ l → DStep ow h ow' h' → K (.int .i64 0) h') :
  AC Tryz.prog 24 [.ptr (some ⟨dp, 0⟩), .str [115], .int .i64 (k : Nat), .int .i64 (at' : Nat), .int .u32 (turn : Nat)] h K := by
 obtain ⟨a1, a2, a3, a4⟩ := file_fit F.ok F.few
 have few := F.few
 have hkS : k < (sectors 7 l).length := by rw [sectors_len]; omega
 have hsec : ∀ j x, (sectors 7 l)[j]? = some x → ∃ c, c.length ≤ 43 ∧ x = put (7 + j) c := fun j x hx => by
  obtain ⟨c, hc, _, rfl⟩ := sectors_get hx
  exact ⟨c, pagesB_fit F.ok (by omega) c hc, rfl⟩
 have hx := List.getElem?_eq_getElem hkS
 generalize (sectors 7 l)[k] = s0 at hx
 have hx64 := a1 s0 (List.mem_of_getElem? hx)
 refine k24 F.disk (s := [115]) (oneD_find (f := ⟨b, [115], sectors 7 l, sectors 7 l⟩)) hkS ha ht a1 a1 fun h' ow' R' S' => ?_
 rw [flip_one hx] at R'
 obtain ⟨cc, hcl, hce⟩ := hsec k s0 hx
 have hg0 : Go.Page.get s0 (7 + k) = some cc := by rw [hce]; exact get_put hcl
 exact hK _ h' ow' (by rw [flipN_len]; exact hx64) (get_flip hg0 (by omega) ht0 ht) (F.turn R' S' rfl rfl) S'
end
structure CurD where
  sp : Nat
  dp : Nat
  base : Nat
  count : Nat
  s : Bs
  q : Option SL
  heads : List Ent
  gs : List (List Ent)
  r : Nat → Int
structure CuG (hW : Heap) (p fb mb : Nat) (fl : Bs → Nat → Int × List Ent) (d : CurD) : Prop where
  W : CW hW d.dp d.sp p fb mb d.s d.base d.count d.q d.heads (fl d.s)
  G : GP d.heads d.gs
  O : ∀ (i : Nat) (g : List Ent), d.gs[i]? = some g → (d.r i = 0 ∧ fl d.s i = (0, g)) ∨ (d.r i ≠ 0 ∧ (fl d.s i).1 = d.r i)
structure Cu where
  cb : Nat
  d : CurD
  R : List Ent
  E : Int
  pg : Option Nat
def Cu.pages (c : Cu) : List Pg := match c.pg with | some i => [(c.d.s, i)] | none => []
theorem Cu.pages_len (c : Cu) : c.pages.length ≤ 1 := by
  unfold Cu.pages
  split <;> simp
def CuOne (z : Nat → Prop) (hW h : Heap) (p fb mb : Nat) (c : Cu) : Prop := z c.cb ∧ hW.length ≤ c.cb ∧
  ((∃ (i a : Nat) (l : List Ent) (ql : Option SL), c.pg = some i ∧ h[c.cb]? = some (curC p c.d.sp i ql (a : Nat) 0) ∧ HasL entE h ql l ∧ (∀ t, ql = some t → ¬ z t.b ∧ ¬ pbl p fb mb t.b) ∧ c.d.gs[i]? = some l ∧ a < l.length ∧ c.R = l.drop a ++ (tailL c.d.r (c.d.gs.drop (i + 1)) (i + 1)).1 ∧ c.E = (tailL c.d.r (c.d.gs.drop (i + 1)) (i + 1)).2) ∨
   (c.pg = none ∧ c.R = [] ∧ ∃ (i : Nat) (ql : Option SL) (er : Int), h[c.cb]? = some (curC p c.d.sp i ql ((0 : Nat) : Int) er) ∧ HasL entE h ql [] ∧ ∀ t, ql = some t → ¬ z t.b ∧ ¬ pbl p fb mb t.b))
structure CA (z : Nat → Prop) (hW h : Heap) (p fb mb n : Nat) (fl : Bs → Nat → Int × List Ent) (cs : List Cu) (P : PS) (N : Nat) : Prop where
  C : CP z hW h p fb mb P N
  A : HP fl n (cs.flatMap Cu.pages) P
  one : ∀ c ∈ cs, CuOne z hW h p fb mb c
  nd : (cs.map (·.cb)).Nodup
  few : cs.length ≤ n
  g : ∀ c ∈ cs, CuG hW p fb mb fl c.d
section
variable {z z' : Nat → Prop} {hW h h' : Heap} {Q : AV → Heap → Prop} {p fb mb n N N' : Nat} {fl : Bs → Nat → Int × List Ent} {cs a b : List Cu} {c : Cu} {P P' : PS}
theorem dist_le : ∀ H : List Pg, dist H ≤ H.length
  | [] => Nat.le_refl _
  | x :: H => by
    have := dist_le H
    simp only [dist, List.length_cons]
    split <;> omega
theorem pages_few : ∀ cs : List Cu, (cs.flatMap Cu.pages).length ≤ cs.length
  | [] => Nat.le_refl _
  | c :: cs => by
    have := pages_few cs
    have := c.pages_len
    simp only [List.flatMap_cons, List.length_append, List.length_cons]; omega
theorem CuG.out (G : CuG hW p fb mb fl c.d) {C : List Pg} (hd : dist C < n) : Out fl n C c.d.s c.d.gs c.d.r := fun i g hg => by
  rcases G.O i g hg with ⟨h1, h2⟩ | ⟨h1, h2⟩
  · exact .inl ⟨h1, h2, .inr hd⟩
  · exact .inr ⟨h1, .inl h2⟩
theorem CuOne.keeps (o : CuOne z hW h p fb mb c) {X : Nat → Prop} (K : Keeps X h h') (hX : ∀ b, X b → z b ∨ pbl p fb mb b) (hc : ¬ X c.cb) (h1 : ∀ b, z b → z' b) (h2 : ∀ b, z' b → z b ∨ h.length ≤ b) : CuOne z' hW h' p fb mb c := by
  obtain ⟨o1, o2, o3⟩ := o
  have key : ∀ {ql : Option SL} {l : List Ent}, HasL entE h ql l → (∀ t, ql = some t → ¬ z t.b ∧ ¬ pbl p fb mb t.b) → HasL entE h' ql l ∧ ∀ t, ql = some t → ¬ z' t.b ∧ ¬ pbl p fb mb t.b := fun {ql l} H d => ⟨K.hasL (fun t ht hb => by
      rcases hX _ hb with hz | hp
      · exact (d t ht).1 hz
      · exact (d t ht).2 hp) H, fun t ht => ⟨fun hz => by
      rcases h2 _ hz with hz | hz
      · exact (d t ht).1 hz
      · have := HasL.live H t ht; omega, (d t ht).2⟩⟩
  refine ⟨h1 _ o1, o2, ?_⟩
  rcases o3 with ⟨i, a, l, ql, e1, e2, e3, e4, e5⟩ | ⟨e1, e2, i, ql, er, e3, e4, e5⟩
  · obtain ⟨k1, k2⟩ := key e3 e4
    exact .inl ⟨i, a, l, ql, e1, K _ _ hc e2, k1, k2, e5⟩
  · obtain ⟨k1, k2⟩ := key e4 e5
    exact .inr ⟨e1, e2, i, ql, er, K _ _ hc e3, k1, k2⟩
theorem CA.step (A : CA z hW h p fb mb n fl cs P N) {X : Nat → Prop} (K : Keeps X h h') (hX : ∀ b, X b → z b) (hN : ∀ b, X b → hW.length ≤ b) (hl : h.length ≤ h'.length) (h1 : ∀ b, z b → z' b) (h2 : ∀ b, z' b → z b ∨ (h.length ≤ b ∧ b < h'.length)) (hc : ∀ c ∈ cs, ¬ X c.cb) : CA z' hW h' p fb mb n fl cs P N :=
  ⟨A.C.step K hX hN hl h1 h2, A.A, fun c hm => (A.one c hm).keeps K (fun b hb => .inl (hX b hb)) (hc c hm) h1 (fun b hb => (h2 b hb).imp id And.left), A.nd, A.few, A.g⟩
theorem CA.grow (A : CA z hW h p fb mb n fl cs P N) (x : Ext h h') : CA z hW h' p fb mb n fl cs P N :=
  A.step (X := fun _ => False) (keeps_of_ext x) (fun _ h => h.elim) (fun _ h => h.elim) x.len (fun _ h => h) (fun _ h => .inl h) (fun _ _ h => h)
theorem CA.ctx (A : CA z hW h p fb mb n fl (a ++ c :: b) P N) : HP fl n (c.pages ++ (a ++ b).flatMap Cu.pages) P ∧ dist ((a ++ b).flatMap Cu.pages) < n := by
  have hl := A.few
  refine ⟨A.A.perm ?_, ?_⟩
  · rw [List.flatMap_append, List.flatMap_cons, List.flatMap_append]
    exact (List.perm_append_comm_assoc _ _ _)
  · have h1 := dist_le ((a ++ b).flatMap Cu.pages)
    have h2 := pages_few (a ++ b)
    simp only [List.length_append, List.length_cons] at hl h2
    omega
theorem CA.cr (A : CA z hW h p fb mb n fl (a ++ c :: b) P N) : ∃ er, CR z hW h c.d.sp p fb mb c.cb c.d.s n fl c.d.gs c.d.r ((a ++ b).flatMap Cu.pages) c.R c.E er P N := by
  obtain ⟨o1, o2, o3⟩ := A.one c (by simp)
  have hp := A.ctx.1
  rcases o3 with ⟨i, at', l, ql, e1, e2, e3, e4, e5, e6, e7, e8⟩ | ⟨e1, e2, i, ql, er, e3, e4, e5⟩
  · have : c.pages = [(c.d.s, i)] := by unfold Cu.pages; rw [e1]
    rw [this] at hp
    exact ⟨0, .inl ⟨i, at', l, ⟨A.C, ⟨ql, e2, e3, e4⟩, o1, o2⟩, hp, e5, e6, e7, e8, rfl⟩⟩
  · have : c.pages = [] := by unfold Cu.pages; rw [e1]
    rw [this] at hp
    exact ⟨er, .inr ⟨e2, i, ⟨A.C, ⟨ql, e3, e4, e5⟩, o1, o2⟩, hp⟩⟩
theorem CA.back (A : CA z hW h p fb mb n fl (a ++ c :: b) P N) {R : List Ent} {E er : Int} (S : CR z hW h' c.d.sp p fb mb c.cb c.d.s n fl c.d.gs c.d.r ((a ++ b).flatMap Cu.pages) R E er P' N') (K : Keeps (fun b => pbl p fb mb b ∨ b = c.cb) h h') :
    ∃ pg, CA z hW h' p fb mb n fl (a ++ ⟨c.cb, c.d, R, E, pg⟩ :: b) P' N' := by
  have hnd := A.nd
  have hz := (A.one c (by simp)).1
  have hW' := (A.one c (by simp)).2.1
  have cne : ∀ u, u ∈ a ∨ u ∈ b → u.cb ≠ c.cb := fun u hu => by
    rw [List.map_append, List.map_cons, List.nodup_append] at hnd
    obtain ⟨n1, n2, n3⟩ := hnd
    rw [List.nodup_cons] at n2
    rcases hu with hu | hu
    · exact fun he => n3 _ (List.mem_map_of_mem hu) _ (by simp) he
    · exact fun he => n2.1 (by rw [← he]; exact List.mem_map_of_mem hu)
  have others : ∀ u, u ∈ a ∨ u ∈ b → CuOne z hW h' p fb mb u := fun u hu => (A.one u (by rcases hu with hu | hu <;> simp [hu])).keeps K (fun b hb => by
      rcases hb with hb | hb
      · exact .inr hb
      · exact .inl (by rw [hb]; exact hz)) (fun hb => by
      rcases hb with hb | hb
      · exact A.C.zp _ (A.one u (by rcases hu with hu | hu <;> simp [hu])).1 hb
      · exact cne u hu hb) (fun _ h => h) (fun _ h => .inl h)
  have fin : ∀ pg, HP fl n ((⟨c.cb, c.d, R, E, pg⟩ : Cu).pages ++ (a ++ b).flatMap Cu.pages) P' → CuOne z hW h' p fb mb ⟨c.cb, c.d, R, E, pg⟩ → CP z hW h' p fb mb P' N' → CA z hW h' p fb mb n fl (a ++ ⟨c.cb, c.d, R, E, pg⟩ :: b) P' N' := fun pg hp ho hc => by
    refine ⟨hc, hp.perm ?_, fun u hu => ?_, by simpa using hnd, by have := A.few; simpa using this, fun u hu => ?_⟩
    · rw [List.flatMap_append, List.flatMap_append, List.flatMap_cons]
      exact (List.perm_append_comm_assoc _ _ _)
    · rcases List.mem_append.1 hu with hu | hu
      · exact others u (.inl hu)
      · rcases List.mem_cons.1 hu with rfl | hu
        · exact ho
        · exact others u (.inr hu)
    · rcases List.mem_append.1 hu with hu | hu
      · exact A.g u (by simp [hu])
      · rcases List.mem_cons.1 hu with rfl | hu
        · exact A.g c (by simp)
        · exact A.g u (by simp [hu])
  rcases S with ⟨i, at', l, S, hp, hg, ha, hR, hE, he⟩ | ⟨hR, i, S, hp⟩
  · obtain ⟨ql, c1, c2, c3⟩ := S.cell
    exact ⟨some i, fin _ hp ⟨hz, hW', .inl ⟨i, at', l, ql, rfl, c1, c2, c3, hg, ha, hR, hE⟩⟩ S.C⟩
  · obtain ⟨ql, c1, c2, c3⟩ := S.cell
    exact ⟨none, fin _ hp ⟨hz, hW', .inr ⟨rfl, hR, i, ql, er, c1, c2, c3⟩⟩ S.C⟩
theorem CA.peek (A : CA z hW h p fb mb n fl (a ++ c :: b) P N) (h0 : c.R = [] → Q (.tup [entV (0, 0, 0, 0), .bool false]) h) (h1 : ∀ x R', c.R = x :: R' → Q (.tup [entV x, .bool true]) h) : AC Tryz.prog 14 [.ptr (some ⟨c.cb, 0⟩)] h Q := by
  obtain ⟨er, S⟩ := A.cr
  exact S.peek (A.g c (by simp)).G h0 h1
theorem CA.next {x : Ent} {R' : List Ent} (A : CA z hW h p fb mb n fl (a ++ c :: b) P N) (hN : N ≤ 1000000) (hR : c.R = x :: R')
    (h1 : ∀ h' P' N' pg, CA z hW h' p fb mb n fl (a ++ ⟨c.cb, c.d, R', c.E, pg⟩ :: b) P' N' → N' ≤ N + 1 → Keeps (fun b => pbl p fb mb b ∨ b = c.cb) h h' → h.length ≤ h'.length → Q (.int .i64 (if R' = [] then c.E else 0)) h') : AC Tryz.prog 16 [.ptr (some ⟨c.cb, 0⟩)] h Q := by
  obtain ⟨er, S⟩ := A.cr
  have g := A.g c (by simp)
  refine S.next g.W g.G (g.out A.ctx.2) hN (fun h0 => by rw [hR] at h0; cases h0) fun y R2 hR2 h2 P2 N2 S2 hN2 K2 l2 => ?_
  rw [hR] at hR2
  obtain ⟨rfl, rfl⟩ := List.cons.inj hR2
  obtain ⟨pg, A2⟩ := A.back S2 K2
  exact h1 h2 P2 N2 pg A2 hN2 K2 l2
theorem CA.close (A : CA z hW h p fb mb n fl (a ++ c :: b) P N) (hN : N ≤ 1000000)
    (h1 : ∀ h' P' pg, CA z hW h' p fb mb n fl (a ++ ⟨c.cb, c.d, [], c.E, pg⟩ :: b) P' N → Keeps (fun b => pbl p fb mb b ∨ b = c.cb) h h' → h.length ≤ h'.length → Q (.tup []) h') : AC Tryz.prog 20 [.ptr (some ⟨c.cb, 0⟩)] h Q := by
  obtain ⟨er, S⟩ := A.cr
  refine S.close (A.g c (by simp)).W hN fun h2 P2 S2 K2 l2 => ?_
  obtain ⟨pg, A2⟩ := A.back S2 K2
  exact h1 h2 P2 pg A2 K2 l2
theorem CA.noHeld (A : CA z hW h p fb mb n fl cs P N) (hR : ∀ c ∈ cs, c.R = []) : P.held = 0 := by
  have : ∀ c ∈ cs, c.pages = [] := fun c hc => by
    obtain ⟨_, _, o3⟩ := A.one c hc
    rcases o3 with ⟨i, at', l, ql, e1, e2, e3, e4, e5, e6, e7, e8⟩ | ⟨e1, _⟩
    · rw [hR c hc] at e7
      have := congrArg List.length e7
      rw [List.length_append, List.length_drop] at this
      simp only [List.length_nil] at this
      omega
    · unfold Cu.pages; rw [e1]
  have h0 : cs.flatMap Cu.pages = [] := List.flatMap_eq_nil_iff.2 this
  have := A.A
  rw [h0] at this
  exact this.cnt0
theorem CA.add {sp cb : Nat} {d : CurD} {R : List Ent} {E er : Int} (A : CA z hW h p fb mb n fl cs P N) (g : CuG hW p fb mb fl d) (K : Keeps (pbl p fb mb) h h') (hcb : h.length ≤ cb) (hf : cs.length + 1 ≤ n) (h1 : ∀ b, z b → z' b) (h2 : ∀ b, z' b → z b ∨ h.length ≤ b)
    (S : CR z' hW h' d.sp p fb mb cb d.s n fl d.gs d.r (cs.flatMap Cu.pages) R E er P' N') : ∃ pg, CA z' hW h' p fb mb n fl (⟨cb, d, R, E, pg⟩ :: cs) P' N' := by
  have hlt : ∀ u ∈ cs, u.cb < h.length := fun u hu => A.C.zl _ (A.one u hu).1
  have fin : ∀ pg, HP fl n ((⟨cb, d, R, E, pg⟩ : Cu).pages ++ cs.flatMap Cu.pages) P' → CuOne z' hW h' p fb mb ⟨cb, d, R, E, pg⟩ → CP z' hW h' p fb mb P' N' → CA z' hW h' p fb mb n fl (⟨cb, d, R, E, pg⟩ :: cs) P' N' := fun pg hp ho hc => by
    refine ⟨hc, by rw [List.flatMap_cons]; exact hp, fun u hu => ?_, ?_, by simp only [List.length_cons]; omega, fun u hu => ?_⟩
    · rcases List.mem_cons.1 hu with rfl | hu
      · exact ho
      · exact (A.one u hu).keeps K (fun b hb => .inr hb) (fun hb => A.C.zp _ (A.one u hu).1 hb) h1 h2
    · rw [List.map_cons, List.nodup_cons]
      refine ⟨fun hm => ?_, A.nd⟩
      obtain ⟨u, hu, he⟩ := List.mem_map.1 hm
      have := hlt u hu
      have he : u.cb = cb := he
      omega
    · rcases List.mem_cons.1 hu with rfl | hu
      · exact g
      · exact A.g u hu
  rcases S with ⟨i, at', l, S, hp, hg, ha, hR, hE, he⟩ | ⟨hR, i, S, hp⟩
  · obtain ⟨ql, c1, c2, c3⟩ := S.cell
    exact ⟨some i, fin _ hp ⟨S.zc, S.nw, .inl ⟨i, at', l, ql, rfl, c1, c2, c3, hg, ha, hR, hE⟩⟩ S.C⟩
  · obtain ⟨ql, c1, c2, c3⟩ := S.cell
    exact ⟨none, fin _ hp ⟨S.zc, S.nw, .inr ⟨rfl, hR, i, ql, er, c1, c2, c3⟩⟩ S.C⟩
end
end Go.Proofs.YtankijamfedliaaGreatDoor
