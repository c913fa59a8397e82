import Derived.Test.YtnglhicedhcpbaaGreatDoorLG12
import Derived.Test.YtnglhicedhcpbaaGreatDoorLG22
import Derived.Test.YtnglhicedhcpbaaGreatDoorLG26
import Derived.Test.YtnglhicedhcpbaaGreatDoorLG27
import Derived.Test.YtnglhicedhcpbaaGreatDoorLG31


namespace Go.Proofs.YtnglhicedhcpbaaGreatDoor
open Go.Ab
open Go.Dsk hiding Bs
set_option linter.unusedVariables false
set_option linter.unusedSimpArgs false
section
variable {h h' : Heap} {ow ow' : zO} {p : Nat} {qL qP : OSl} {D : DS} {f : FA} {Q : AHp}
theorem zCV {n b : Nat} {q : OSl} {r : Role} (hq : ∀ s, q = some s -> n <= s.b ∨ ow s.b = some r) (hb : ow b = none) (hn : b < n) : yP ow q r b = none := by
 unfold yP
 cases q with
 | none => exact hb
 | some s =>
  simp only
  split
  ·rename_i he
   subst he
   rcases hq s rfl with h1 | h1
   ·omega
   ·rw [hb] at h1; cases h1
  ·exact hb
theorem xM {b : Nat} {q : OSl} {r : Role} (hb : ow b = none) (hq : ∀ s, q = some s -> s.b ≠ b) : yP ow q r b = none := by
 unfold yP
 cases q with
 | none => exact hb
 | some s =>
  simp only
  rw [if_neg (fun hc => hq s rfl hc.symm)]
  exact hb
set_option maxHeartbeats 1000000 in
theorem r128 {s x : Bs} {q : OSl} {n : Int} (C : RDC h ow p qL qP D) (hon : D.off = false) (hleft : D.left = -1) (hf : D.find s = some f) (H : HasL byE h q x) (hqo : ∀ t, q = some t -> ow t.b = none) (hx : x.length = 64) (hpl : D.pends.length <= 1000000)
  (h0 : D.limit <= D.used -> Q (.int .i64 2) h)
  (h1 : ¬ D.limit <= D.used -> ∀ h' ow', RDR h' ow' p { D with files := upF D.files { f with now := f.now ++ [x] }, pends := D.pends ++ [(f.b, f.now.length, x)] } -> yV ow h ow' h' -> Q (.int .i64 0) h') :
  AC Tryz.prog 128 [.ptr (some ⟨p, 0⟩), .str s, .int .i64 n, .sl q, .bool true] h Q := ac128 (by
 unfold vc128 PNew
 obtain ⟨hfm, hfn⟩ := jN hf
 refine r55 C (fun hn => by rw [hf] at hn; cases hn) fun f' hf' => ⟨_, rfl, ?_⟩
 rw [hf] at hf'; cases hf'
 rw [H.len, hx]
 refine zB (fun g => by simp at g) (fun _ => zB (fun g => by simp at g) (fun _ => zB (fun g => by cases g) (fun _ => zB (fun _ => ?_) (fun g => by cases g))))
 refine ⟨_, C.at (k := 2) rfl, ?_⟩
 refine r53 C ⟨_, rfl, ⟨_, C.at (k := 2) rfl, rfl⟩, ?_⟩
 refine zB (fun g => ?_) (fun g => ?_)
 ·replace g := of_decide_eq_true g
  exact r199 C hon hleft ⟨_, rfl, zB (fun _ => h0 (by omega)) (fun g => by simp at g)⟩
 replace g := of_decide_eq_false g
 have h1 := h1 (by omega)
 have hus := C.used
 have hlm := C.lim
 have hroom : D.used + 1 <= 16384 := by omega
 refine r199 C hon hleft ⟨_, rfl, zB (fun g => by simp at g) (fun _ => ?_)⟩
 obtain ⟨hrole, qn, qs, fc, ⟨qss, A, hql, hel⟩, S2, rn, rs⟩ := C.file f hfm
 have hfl := zD fc
 have hpl' := zD C.pb
 have hfp : f.b ≠ p := fun hc => by rw [hc, C.pr] at hrole; cases hrole
 have nfl : f.now.length <= D.used := by
  have h2 : ∀ (l : List FA), f ∈ l -> f.now.length <= (l.map (·.now.length)).sum := by
   intro l
   induction l with
   | nil => intro hm; cases hm
   | cons a l ih =>
    intro hm
    simp only [List.map_cons, List.sum_cons]
    rcases List.mem_cons.1 hm with rfl | hm
    ·omega
    ·have := ih hm; omega
  exact h2 _ hfm
 refine zET (E := byE) H (by omega) fun q435 h436 N436 => ?_
 refine zB (fun _ => ?_) (fun g => by cases g)
 have x436 := N436.1
 have l436 := x436.len
 refine ⟨qn, by rw [zZ (x436 _ _ fc) (by simp)]; rfl, qn, by rw [zZ (x436 _ _ fc) (by simp)]; rfl, ?_⟩
 have x442 : Ext h436 (h436 ++ [Blk.cells [.sl q435] true]) := .app _ _
 have xx := x436.trans x442
 refine Apd.append (E := slE) (A.ext xx) (HasL.new (E := slE) (l := [q435]) (n := 1) rfl rfl) (by rw [hql]; simp; omega) fun q443 h444 A444 K444 l444 f444 => ?_
 have l444' : h436.length + 1 <= h444.length := by simpa using l444
 have fr443 : ∀ t, q443 = some t -> h.length <= t.b ∨ ow t.b = some (.now f.b) := fun t ht => by
  rcases f444 t ht with a | ⟨u, hu, hb⟩
  ·left; simp at a; omega
  ·right; rw [<- hb]; exact rn u hu
 have big443 : ∀ t, q443 = some t -> h436.length <= t.b ∨ t.b < h.length := fun t ht => by
  rcases f444 t ht with a | ⟨u, hu, hb⟩
  ·left; simp at a; omega
  ·right; rw [<- hb]; exact HasL.live A.hasL u hu
 have nfb : ¬ (∃ u, qn = some u /\ u.b = f.b) := fun ⟨u, hu, hb⟩ => by have := rn u hu; rw [hb, hrole] at this; cases this
 have np : ¬ (∃ u, qn = some u /\ u.b = p) := fun ⟨u, hu, hb⟩ => by have := rn u hu; rw [hb, C.pr] at this; cases this
 have fc444 := K444 _ _ nfb (xx _ _ fc)
 have pb444 := K444 _ _ np (xx _ _ C.pb)
 have hfl444 := zD fc444
 refine yD fc444 (by simp) ?_
 rw [show splice [AV.str f.name, .sl qn, .sl qs] 1 [.sl q443] = [AV.str f.name, .sl q443, .sl qs] from rfl]
 have K446 : zM (fun b => b = f.b) h444 (h444.set f.b (.cells [.str f.name, .sl q443, .sl qs] true)) := zT rfl
 have fc446 : (h444.set f.b (.cells [.str f.name, .sl q443, .sl qs] true))[f.b]? = some (.cells [.str f.name, .sl q443, .sl qs] true) := List.getElem?_set_self hfl444
 have l446 : (h444.set f.b (.cells [.str f.name, .sl q443, .sl qs] true)).length = h444.length := List.length_set
 have ne443 : ∀ t, q443 = some t -> t.b ≠ f.b /\ t.b ≠ p := fun t ht => by
  rcases fr443 t ht with a | a
  ·omega
  ·exact ⟨fun hc => by (rw [hc, hrole] at a; cases a), fun hc => by (rw [hc, C.pr] at a; cases a)⟩
 have A446 : Apd slE (h444.set f.b (.cells [.str f.name, .sl q443, .sl qs] true)) q443 (qss ++ [q435]) := A444.keeps K446 fun t ht hc => (ne443 t ht).1 hc
 have pb446 := K446 _ _ (fun hc => hfp hc.symm) pb444
 let X : Nat -> Prop := fun c => (∃ u, qn = some u /\ u.b = c) ∨ c = f.b
 have KX : zM X h (h444.set f.b (.cells [.str f.name, .sl q443, .sl qs] true)) := fun c B hc hB => K446 _ _ (fun h => hc (.inr h)) (K444 _ _ (fun h => hc (.inl h)) (xx _ _ hB))
 have KX436 : zM X h436 (h444.set f.b (.cells [.str f.name, .sl q443, .sl qs] true)) := fun c B hc hB => K446 _ _ (fun h => hc (.inr h)) (K444 _ _ (fun h => hc (.inl h)) (x442 _ _ hB))
 generalize h444.set f.b (.cells [.str f.name, .sl q443, .sl qs] true) = h446 at *
 have Xown : ∀ c, X c -> ow c ≠ none := fun c hc => by
  rcases hc with ⟨u, hu, rfl⟩ | rfl
  ·rw [rn u hu]; simp
  ·rw [hrole]; simp
 have XownR : ∀ c, X c -> dskR ow c := fun c hc => by
  rcases hc with ⟨u, hu, rfl⟩ | rfl
  ·show _ /\ _; rw [rn u hu]; simp
  ·show _ /\ _; rw [hrole]; simp
 have Xlt : ∀ c, X c -> c < h.length := fun c hc => C.live c (Xown c hc)
 refine ⟨qP, by rw [zZ pb446 (by simp)]; rfl, ?_⟩
 have x450 : Ext h446 (h446 ++ [Blk.cells [] true]) := .app _ _
 have ck : ∀ {hX : Heap}, Ext h446 hX -> ∃ q : OSl, zA hX ⟨p, 0 + 1⟩ 1 = some [.sl q] /\ LV.val (.sl q) = LV.val (.sl qP) := fun x => ⟨qP, by rw [zZ (x _ _ pb446) (by simp)]; rfl, rfl⟩
 refine ⟨ck x450, ?_⟩
 have H446 : HasL byE h446 q x := KX.hasL (fun t ht hc => Xown _ hc (hqo t ht)) H
 have hq446 : HasL byE h446 q435 x := KX436.hasL (fun t ht hc => by have := N436.2.2 t ht; have := Xlt _ hc; omega) N436.hasL
 refine zET (E := byE) H446 (by omega) fun q451 h452 N452 => ?_
 have x452 := N452.1
 have l452 := x452.len
 refine ⟨ck x452, ck (x452.trans (.app _ _)), ?_⟩
 obtain ⟨ps, B, hpsl, hpel⟩ := C.pnd
 have qPX : ∀ t, qP = some t -> ¬ X t.b := fun t ht hc => by
  have h9 := C.pndr t ht
  rcases hc with ⟨u, hu, hb⟩ | hb
  ·have := rn u hu; rw [hb, h9] at this; cases this
  ·rw [hb, hrole] at h9; cases h9
 have B446 : Apd pdE h446 qP ps := B.keeps KX qPX
 have hln : zJ qn = f.now.length := by rw [A.hasL.len, hql]
 rw [hln]
 have x454 : Ext h452 (h452 ++ [Blk.cells [.ptr (some ⟨f.b, 0⟩), .int .i64 ((f.now.length : Nat) : Int), .sl q451] true]) := .app _ _
 have xy := x452.trans x454
 refine Apd.append (E := pdE) (B446.ext xy) (HasL.new (E := pdE) (l := [(f.b, f.now.length, q451)]) (n := 1) rfl rfl) (by rw [hpsl]; simp; omega) fun q455 h456 B456 K456 l456 f456 => ?_
 have l456' : h452.length + 1 <= h456.length := by simpa using l456
 have fr455 : ∀ t, q455 = some t -> h.length <= t.b ∨ ow t.b = some .pends := fun t ht => by
  rcases f456 t ht with a | ⟨u, hu, hb⟩
  ·left; simp at a; omega
  ·right; rw [<- hb]; exact C.pndr u hu
 have big455 : ∀ t, q455 = some t -> h452.length <= t.b ∨ t.b < h.length := fun t ht => by
  rcases f456 t ht with a | ⟨u, hu, hb⟩
  ·left; simp at a; omega
  ·right; rw [<- hb]; exact HasL.live B.hasL u hu
 have np2 : ¬ (∃ u, qP = some u /\ u.b = p) := fun ⟨u, hu, hb⟩ => by have := C.pndr u hu; rw [hb, C.pr] at this; cases this
 have pb456 := K456 _ _ np2 (xy _ _ pb446)
 have hpl456 := zD pb456
 refine yD pb456 (by simp) ?_
 rw [show splice [AV.sl qL, .sl qP, .int .i64 D.limit, .int .i64 D.left, .bool D.off] 1 [.sl q455] = [AV.sl qL, .sl q455, .int .i64 D.limit, .int .i64 D.left, .bool D.off] from rfl]
 have K458 : zM (fun b => b = p) h456 (h456.set p (.cells [.sl qL, .sl q455, .int .i64 D.limit, .int .i64 D.left, .bool D.off] true)) := zT rfl
 have pb458 : (h456.set p (.cells [.sl qL, .sl q455, .int .i64 D.limit, .int .i64 D.left, .bool D.off] true))[p]? = some (.cells [.sl qL, .sl q455, .int .i64 D.limit, .int .i64 D.left, .bool D.off] true) := List.getElem?_set_self hpl456
 have l458 : (h456.set p (.cells [.sl qL, .sl q455, .int .i64 D.limit, .int .i64 D.left, .bool D.off] true)).length = h456.length := List.length_set
 have ne455 : ∀ t, q455 = some t -> t.b ≠ p := fun t ht hc => by
  rcases fr455 t ht with a | a
  ·omega
  ·rw [hc, C.pr] at a; cases a
 have B458 := B456.keeps K458 fun t ht hc => ne455 t ht hc
 let Y : Nat -> Prop := fun c => (∃ u, qP = some u /\ u.b = c) ∨ c = p
 have KY : zM Y h446 (h456.set p (.cells [.sl qL, .sl q455, .int .i64 D.limit, .int .i64 D.left, .bool D.off] true)) := fun c B hc hB => K458 _ _ (fun h => hc (.inr h)) (K456 _ _ (fun h => hc (.inl h)) (xy _ _ hB))
 have KY452 : zM Y h452 (h456.set p (.cells [.sl qL, .sl q455, .int .i64 D.limit, .int .i64 D.left, .bool D.off] true)) := fun c B hc hB => K458 _ _ (fun h => hc (.inr h)) (K456 _ _ (fun h => hc (.inl h)) (x454 _ _ hB))
 have Yown : ∀ c, Y c -> ow c ≠ none := fun c hc => by
  rcases hc with ⟨u, hu, rfl⟩ | rfl
  ·rw [C.pndr u hu]; simp
  ·rw [C.pr]; simp
 have YownR : ∀ c, Y c -> dskR ow c := fun c hc => by
  rcases hc with ⟨u, hu, rfl⟩ | rfl
  ·show _ /\ _; rw [C.pndr u hu]; simp
  ·show _ /\ _; rw [C.pr]; simp
 have KZ : zM (fun c => X c ∨ Y c) h (h456.set p (.cells [.sl qL, .sl q455, .int .i64 D.limit, .int .i64 D.left, .bool D.off] true)) := fun c B hc hB => KY _ _ (fun h => hc (.inr h)) (KX _ _ (fun h => hc (.inl h)) hB)
 generalize h456.set p (.cells [.sl qL, .sl q455, .int .i64 D.limit, .int .i64 D.left, .bool D.off] true) = h458 at *
 have Zown : ∀ c, ow c = none -> ¬ (X c ∨ Y c) := fun c hc h => by
  rcases h with h | h
  ·exact Xown c h hc
  ·exact Yown c h hc
 have ow1k := jQ (ow := ow) (n := h.length) (q := q443) (r := .now f.b) C.live fr443
 have fr455' : ∀ t, q455 = some t -> h.length <= t.b ∨ yP ow q443 (.now f.b) t.b = some .pends := fun t ht => by
  rcases fr455 t ht with a | a
  ·exact .inl a
  ·exact .inr (ow1k _ _ a)
 have own2 : ∀ b, yP (yP ow q443 (.now f.b)) q455 .pends b ≠ none -> ow b ≠ none ∨ h.length <= b := fun b hb => by
  rcases xF fr455' b hb with h9 | h9
  ·rcases xF fr443 b h9 with h8 | h8
   ·exact .inl h8
   ·exact .inr h8
  ·exact .inr h9
 have ne4 : ∀ t u, q443 = some t -> q455 = some u -> t.b ≠ u.b := fun t u ht hu hc => by
  rcases big455 u hu with a | a
  ·have := HasL.live A446.hasL t ht; omega
  ·rcases fr443 t ht with b | b
   ·omega
   ·rcases fr455 u hu with d | d
    ·omega
    ·rw [hc, d] at b; cases b
 have ow2k : ∀ b r', ow b = some r' -> yP (yP ow q443 (.now f.b)) q455 .pends b = some r' := fun b r' hb => by
  have h9 := ow1k b r' hb
  unfold yP at h9 ⊢
  cases q455 with
  | none => exact h9
  | some u =>
   simp only
   split
   ·rename_i he
    subst he
    rcases fr455 u rfl with d | d
    ·have := C.live u.b (by rw [hb]; simp); omega
    ·rw [d] at hb; exact hb
   ·exact h9
 have none2 : ∀ b, ow b = none -> b < h.length -> yP (yP ow q443 (.now f.b)) q455 .pends b = none := fun b hb hl => zCV fr455' (zCV fr443 hb hl) hl
 refine h1 h458 (yP (yP ow q443 (.now f.b)) q455 .pends) ⟨qL, q455, ?_⟩ ⟨fun c B hc hB => KZ c B (fun h => hc (by rcases h with h | h; exact XownR c h; exact YownR c h)) hB, by omega, own2, fun b hb => ow2k _ _ hb⟩
 have l45 : h.length <= h446.length := by omega
 have ll58 : h452.length + 1 <= h458.length := by omega
 have A458 : Apd slE h458 q443 (qss ++ [q435]) := A446.keeps KY fun t ht hc => by
  rcases hc with ⟨u, hu, hb⟩ | hb
  ·rcases fr443 t ht with a | a
   ·have := HasL.live B.hasL u hu; omega
   ·have := C.pndr u hu
    rw [hb, a] at this; cases this
  ·exact (ne443 t ht).2 hb
 have Ylt : ∀ c, Y c -> c < h.length := fun c hc => C.live c (Yown c hc)
 have h435 : HasL byE h458 q435 x := KY.hasL (fun t ht hc => by have := N436.2.2 t ht; have := Ylt _ hc; omega) hq446
 have h451 : HasL byE h458 q451 x := KY452.hasL (fun t ht hc => by have := N452.2.2 t ht; have := Ylt _ hc; omega) N452.hasL
 have none435 : ∀ t, q435 = some t -> yP (yP ow q443 (.now f.b)) q455 .pends t.b = none := fun t ht => by
  have h9 := N436.2.2 t ht
  have h8 := HasL.live N436.hasL t ht
  have hn : ow t.b = none := by
   cases ho : ow t.b with
   | none => rfl
   | some r => have := C.live t.b (by rw [ho]; simp); omega
  refine xM (xM hn fun u hu hc => ?_) fun u hu hc => ?_
  ·rcases big443 u hu with a | a <;> omega
  ·rcases big455 u hu with a | a <;> omega
 have none451 : ∀ t, q451 = some t -> yP (yP ow q443 (.now f.b)) q455 .pends t.b = none := fun t ht => by
  have h9 := N452.2.2 t ht
  have h8 := HasL.live N452.hasL t ht
  have hn : ow t.b = none := by
   cases ho : ow t.b with
   | none => rfl
   | some r => have := C.live t.b (by rw [ho]; simp); omega
  refine xM (xM hn fun u hu hc => ?_) fun u hu hc => ?_
  ·have := HasL.live A446.hasL u hu; omega
  ·rcases big455 u hu with a | a <;> omega
 have self455 : ∀ t, q455 = some t -> yP (yP ow q443 (.now f.b)) q455 .pends t.b = some .pends := fun t ht => kX t ht
 have self443 : ∀ t, q443 = some t -> yP (yP ow q443 (.now f.b)) q455 .pends t.b = some (.now f.b) := fun t ht => by
  have h9 : yP ow q443 (.now f.b) t.b = some (.now f.b) := kX t ht
  have h8 : ∀ u, q455 = some u -> u.b ≠ t.b := fun u hu hc => ne4 t u ht hu hc.symm
  generalize yP ow q443 (.now f.b) = ow1 at h9
  unfold yP
  cases q455 with
  | none => exact h9
  | some u =>
   simp only
   rw [if_neg (fun hc => h8 u rfl hc.symm)]
   exact h9
 have cases2 : ∀ b, yP (yP ow q443 (.now f.b)) q455 .pends b ≠ none -> ow b ≠ none ∨ (∃ t, q443 = some t /\ t.b = b) ∨ (∃ t, q455 = some t /\ t.b = b) := fun b hb => by
  by_cases c1 : ∃ t, q455 = some t /\ t.b = b
  ·exact .inr (.inr c1)
  by_cases c2 : ∃ t, q443 = some t /\ t.b = b
  ·exact .inr (.inl c2)
  left
  intro hn
  exact hb (xM (xM hn fun u hu hc => c2 ⟨u, hu, hc⟩) fun u hu hc => c1 ⟨u, hu, hc⟩)
 have Sk : ∀ {q0 : OSl} {l0 : List Bs}, SecL h ow q0 l0 -> (∀ t, q0 = some t -> ¬ (X t.b ∨ Y t.b)) -> SecL h458 (yP (yP ow q443 (.now f.b)) q455 .pends) q0 l0 := fun S hq => S.keeps KZ hq (fun b hb _ => Zown b hb) none2
 refine ⟨fun b hb => ?_, ow2k _ _ C.pr, pb458, KZ.hasL (fun t ht => Zown _ (C.lstr t ht)) (by rw [show (upF D.files { f with now := f.now ++ [x] }).map (·.b) = D.files.map (·.b) from zF7]; exact C.lst), fun t ht => none2 _ (C.lstr t ht) (HasL.live C.lst t ht), ⟨ps ++ [(f.b, f.now.length, q451)], B458, by simp [hpsl], fun k x' y h2 h3 => ?_⟩, self455, fun g hg => ?_, ?_, ?_, fun y hy => ?_, ?_, ?_, C.lim, C.lft⟩
 ·rcases cases2 b hb with h9 | ⟨t, ht, rfl⟩ | ⟨t, ht, rfl⟩
  ·have := C.live b h9; omega
  ·exact HasL.live A458.hasL t ht
  ·exact HasL.live B458.hasL t ht
 ·rcases Nat.lt_or_ge k ps.length with hk | hk
  ·rw [List.getElem?_append_left hk] at h2
   rw [List.getElem?_append_left (by omega)] at h3
   obtain ⟨a1, a2, a3, a4, a5⟩ := hpel k x' y h2 h3
   exact ⟨a1, a2, KZ.hasL (fun t ht => Zown _ (a5 t ht)) a3, a4, fun t ht => none2 _ (a5 t ht) (HasL.live a3 t ht)⟩
  ·rw [List.getElem?_append_right hk] at h2
   rw [List.getElem?_append_right (by omega), <- hpsl] at h3
   have hk0 : k - ps.length = 0 := by
    have := (List.getElem?_eq_some_iff.1 h2).1
    simpa using this
   rw [hk0] at h2 h3
   cases h2; cases h3
   exact ⟨rfl, rfl, h451, hx, none451⟩
 ·rcases kI hg with rfl | ⟨hgm, hgb⟩
  ·refine ⟨ow2k _ _ hrole, q443, qs, ?_, ⟨qss ++ [q435], A458, by simp [hql], fun k t y h2 h3 => ?_⟩, Sk S2 (fun t ht hc => ?_), self443, fun t ht => ow2k _ _ (rs t ht)⟩
   ·exact KY _ _ (fun hc => by
     rcases hc with ⟨u, hu, hb⟩ | hb
     ·have := C.pndr u hu; rw [hb, hrole] at this; cases this
     ·exact hfp hb) fc446
   ·rcases Nat.lt_or_ge k qss.length with hk | hk
    ·rw [List.getElem?_append_left hk] at h2
     rw [List.getElem?_append_left (by omega)] at h3
     obtain ⟨a1, a2, a3⟩ := hel k t y h2 h3
     exact ⟨KZ.hasL (fun u hu => Zown _ (a3 u hu)) a1, a2, fun u hu => none2 _ (a3 u hu) (HasL.live a1 u hu)⟩
    ·rw [List.getElem?_append_right hk] at h2
     rw [List.getElem?_append_right (by omega), <- hql] at h3
     have hk0 : k - qss.length = 0 := by
      have := (List.getElem?_eq_some_iff.1 h2).1
      simpa using this
     rw [hk0] at h2 h3
     cases h2; cases h3
     exact ⟨h435, hx, none435⟩
   ·have h9 := rs t ht
    rcases hc with (⟨u, hu, hb⟩ | hb) | (⟨u, hu, hb⟩ | hb)
    ·have := rn u hu; rw [hb, h9] at this; cases this
    ·rw [hb, hrole] at h9; cases h9
    ·have := C.pndr u hu; rw [hb, h9] at this; cases this
    ·rw [hb, C.pr] at h9; cases h9
  ·obtain ⟨grole, gn, gs, gc, G1, G2, gr1, gr2⟩ := C.file g hgm
   have hgb' : g.b ≠ f.b := hgb
   refine ⟨ow2k _ _ grole, gn, gs, KZ _ _ (fun hc => ?_) gc, Sk G1 (fun t ht hc => ?_), Sk G2 (fun t ht hc => ?_), fun t ht => ow2k _ _ (gr1 t ht), fun t ht => ow2k _ _ (gr2 t ht)⟩
   ·rcases hc with (⟨u, hu, hb⟩ | hb) | (⟨u, hu, hb⟩ | hb)
    ·have := rn u hu; rw [hb, grole] at this; cases this
    ·exact hgb' hb
    ·have := C.pndr u hu; rw [hb, grole] at this; cases this
    ·rw [hb, C.pr] at grole; cases grole
   ·have h9 := gr1 t ht
    rcases hc with (⟨u, hu, hb⟩ | hb) | (⟨u, hu, hb⟩ | hb)
    ·have := rn u hu; rw [hb, h9] at this
     simp only [Option.some.injEq, Role.now.injEq] at this
     exact hgb' this
    ·rw [hb, hrole] at h9; cases h9
    ·have := C.pndr u hu; rw [hb, h9] at this; cases this
    ·rw [hb, C.pr] at h9; cases h9
   ·have h9 := gr2 t ht
    rcases hc with (⟨u, hu, hb⟩ | hb) | (⟨u, hu, hb⟩ | hb)
    ·have := rn u hu; rw [hb, h9] at this; cases this
    ·rw [hb, hrole] at h9; cases h9
    ·have := C.pndr u hu; rw [hb, h9] at this; cases this
    ·rw [hb, C.pr] at h9; cases h9
 ·have : (upF D.files { f with now := f.now ++ [x] }).map (·.name) = D.files.map (·.name) := by
   unfold upF
   rw [List.map_map]
   apply List.map_congr_left
   intro g hg
   simp only [Function.comp]
   split
   ·rename_i hb
    rw [yZ C.blocks hg hfm hb]
   ·rfl
  rw [this]; exact C.names
 ·rw [show (upF D.files { f with now := f.now ++ [x] }).map (·.b) = D.files.map (·.b) from zF7]; exact C.blocks
 ·rcases List.mem_append.1 hy with hy | hy
  ·obtain ⟨g, hg, e1, e2⟩ := C.pfile y hy
   by_cases hb : g.b = f.b
   ·have := yZ C.blocks hg hfm hb
    subst this
    exact ⟨_, zAT hfm rfl, e1, by simp only [List.length_append]; omega⟩
   ·exact ⟨g, List.mem_map.2 ⟨g, hg, if_neg hb⟩, e1, e2⟩
  ·simp only [List.mem_cons, List.not_mem_nil, or_false] at hy
   subst hy
   exact ⟨_, zAT hfm rfl, rfl, by simp⟩
 ·rw [show (upF D.files { f with now := f.now ++ [x] }).length = D.files.length by simp [upF]]; exact C.many
 ·have key : ∀ (l : List FA), (l.map (·.b)).Nodup -> f ∈ l -> ((upF l { f with now := f.now ++ [x] }).map (·.now.length)).sum = (l.map (·.now.length)).sum + 1 := by
   intro l
   induction l with
   | nil => intro _ hm; cases hm
   | cons a l ih =>
    intro hnd hm
    rw [List.map_cons, List.nodup_cons] at hnd
    by_cases ha : a.b = f.b
    ·have hfa : f = a := by
      rcases List.mem_cons.1 hm with h | h
      ·exact h
      ·exact absurd (List.mem_map.2 ⟨f, h, ha.symm⟩) hnd.1
     subst hfa
     have hno : upF l { f with now := f.now ++ [x] } = l := by
      unfold upF
      have : ∀ (m : List FA), (∀ g ∈ m, g.b ≠ f.b) -> m.map (fun g => if g.b = ({ f with now := f.now ++ [x] } : FA).b then { f with now := f.now ++ [x] } else g) = m := by
       intro m hm
       induction m with
       | nil => rfl
       | cons g m ih2 => rw [List.map_cons, if_neg (hm g (by simp)), ih2 (fun g hg => hm g (by simp [hg]))]
      exact this l fun g hg hc => hnd.1 (List.mem_map.2 ⟨g, hg, hc⟩)
     have e : upF (f :: l) { f with now := f.now ++ [x] } = { f with now := f.now ++ [x] } :: upF l { f with now := f.now ++ [x] } := by simp [upF]
     rw [e, hno]
     simp; omega
    ·have hm' : f ∈ l := by
      rcases List.mem_cons.1 hm with h | h
      ·exact absurd (by rw [h]) ha
      ·exact h
     have e : upF (a :: l) { f with now := f.now ++ [x] } = a :: upF l { f with now := f.now ++ [x] } := by simp [upF, ha]
     rw [e]
     simp only [List.map_cons, List.sum_cons]
     rw [ih hnd.2 hm']; omega
  rw [key D.files C.blocks hfm]
  exact hroom)
end
section
variable {h h' : Heap} {ow ow' : zO} {p : Nat} {qL qP : OSl} {D : DS} {f : FA} {Q : AHp}
theorem zN2 {fs : List FA} {f f' : FA} (hn : (fs.map (·.b)).Nodup) (hf : f ∈ fs) (hb : f'.b = f.b) (hm : f'.name = f.name) : (upF fs f').map (·.name) = fs.map (·.name) := by
 unfold upF
 rw [List.map_map]
 apply List.map_congr_left
 intro g hg
 simp only [Function.comp]
 split
 ·rename_i h
  rw [hm, yZ hn hg hf (by rw [h, hb])]
 ·rfl
theorem RDC.setSafe (C : RDC h ow p qL qP D) (hf : f ∈ D.files) {h1 : Heap} {qn qs q' : OSl} (fc : h[f.b]? = some (.cells [.str f.name, .sl qn, .sl qs] true)) (S1 : SecL h ow qn f.now) (rn : ∀ s, qn = some s -> ow s.b = some (.now f.b))
  {safe' : List Bs} {qss : List (OSl)} (A : Apd slE h1 q' qss) (hql : qss.length = safe'.length) (hel : ∀ (k : Nat) (t : OSl) (x : Bs), qss[k]? = some t -> safe'[k]? = some x -> HasL byE h1 t x /\ x.length = 64 /\ ∀ s, t = some s -> ow s.b = none /\ ∀ u, q' = some u -> u.b ≠ s.b)
  (K : zM (fun b => ow b = some (.safe f.b)) h h1) (hl : h.length <= h1.length) (hq : ∀ s, q' = some s -> h.length <= s.b ∨ ow s.b = some (.safe f.b)) :
  RDC (h1.set f.b (.cells [.str f.name, .sl qn, .sl q'] true)) (yP ow q' (.safe f.b)) p qL qP { D with files := upF D.files { f with safe := safe' } } /\ yV ow h (yP ow q' (.safe f.b)) (h1.set f.b (.cells [.str f.name, .sl qn, .sl q'] true)) := by
 obtain ⟨hrole, _⟩ := C.file f hf
 have hfl := zD fc
 have nfs : ¬ ow f.b = some (.safe f.b) := fun hc => by rw [hrole] at hc; cases hc
 have fc1 := K _ _ nfs fc
 have hfl1 := zD fc1
 have K2 : zM (fun b => b = f.b) h1 (h1.set f.b (.cells [.str f.name, .sl qn, .sl q'] true)) := zT rfl
 have l2 : (h1.set f.b (.cells [.str f.name, .sl qn, .sl q'] true)).length = h1.length := List.length_set
 have fc2 : (h1.set f.b (.cells [.str f.name, .sl qn, .sl q'] true))[f.b]? = some (.cells [.str f.name, .sl qn, .sl q'] true) := List.getElem?_set_self hfl1
 have KX : zM (fun b => ow b = some (.safe f.b) ∨ b = f.b) h (h1.set f.b (.cells [.str f.name, .sl qn, .sl q'] true)) := fun c B hc hB => K2 _ _ (fun h => hc (.inr h)) (K _ _ (fun h => hc (.inl h)) hB)
 have neq : ∀ t, q' = some t -> t.b ≠ f.b := fun t ht hc => by
  rcases hq t ht with a | a
  ·omega
  ·rw [hc, hrole] at a; cases a
 have A2 := A.keeps K2 fun t ht hc => neq t ht hc
 have own1 : ∀ b, ow b = none -> ¬ (ow b = some (.safe f.b) ∨ b = f.b) := fun b hb hc => by
  rcases hc with hc | hc
  ·rw [hb] at hc; cases hc
  ·rw [hc, hrole] at hb; cases hb
 have owk := jQ (ow := ow) (n := h.length) (q := q') (r := .safe f.b) C.live hq
 have none1 : ∀ b, ow b = none -> b < h.length -> yP ow q' (.safe f.b) b = none := fun b hb hbl => zCV hq hb hbl
 have cases1 : ∀ b, yP ow q' (.safe f.b) b ≠ none -> ow b ≠ none ∨ (∃ t, q' = some t /\ t.b = b) := fun b hb => by
  by_cases c1 : ∃ t, q' = some t /\ t.b = b
  ·exact .inr c1
  left
  intro hn
  exact hb (xM hn fun u hu hc => c1 ⟨u, hu, hc⟩)
 have Sk : ∀ {q0 : OSl} {l0 : List Bs}, SecL h ow q0 l0 -> (∀ t, q0 = some t -> ¬ (ow t.b = some (.safe f.b) ∨ t.b = f.b)) -> SecL (h1.set f.b (.cells [.str f.name, .sl qn, .sl q'] true)) (yP ow q' (.safe f.b)) q0 l0 := fun S hq => S.keeps KX hq (fun b hb _ => own1 b hb) none1
 refine ⟨⟨fun b hb => ?_, owk _ _ C.pr, KX _ _ (fun hc => ?_) C.pb, KX.hasL (fun t ht => own1 _ (C.lstr t ht)) (by rw [show (upF D.files { f with safe := safe' }).map (·.b) = D.files.map (·.b) from zF7]; exact C.lst), fun t ht => none1 _ (C.lstr t ht) (HasL.live C.lst t ht), ?_, fun t ht => owk _ _ (C.pndr t ht), fun g hg => ?_, ?_, ?_, fun y hy => ?_, ?_, ?_, C.lim, C.lft⟩, ⟨fun b B hb hB => KX b B (fun hc => hb ?_) hB, by omega, xF hq, fun b hb => owk _ _ hb⟩⟩
 ·rcases cases1 b hb with h9 | ⟨t, ht, rfl⟩
  ·have := C.live b h9; omega
  ·exact HasL.live A2.hasL t ht
 ·rcases hc with hc | hc
  ·rw [C.pr] at hc; cases hc
  ·rw [<- hc, C.pr] at hrole; cases hrole
 ·obtain ⟨ps, B, hpsl, hpel⟩ := C.pnd
  refine ⟨ps, B.keeps KX (fun t ht hc => ?_), hpsl, fun k x y h2 h3 => ?_⟩
  ·have h9 := C.pndr t ht
   rcases hc with hc | hc
   ·rw [h9] at hc; cases hc
   ·rw [hc, hrole] at h9; cases h9
  ·obtain ⟨a1, a2, a3, a4, a5⟩ := hpel k x y h2 h3
   exact ⟨a1, a2, KX.hasL (fun t ht => own1 _ (a5 t ht)) a3, a4, fun t ht => none1 _ (a5 t ht) (HasL.live a3 t ht)⟩
 ·rcases kI hg with rfl | ⟨hgm, hgb⟩
  ·refine ⟨owk _ _ hrole, qn, q', fc2, Sk S1 (fun t ht hc => ?_), ⟨qss, A2, hql, fun k t y h2 h3 => ?_⟩, fun t ht => owk _ _ (rn t ht), kX⟩
   ·have h9 := rn t ht
    rcases hc with hc | hc
    ·rw [h9] at hc; cases hc
    ·rw [hc, hrole] at h9; cases h9
   ·obtain ⟨a1, a2, a3⟩ := hel k t y h2 h3
    refine ⟨K2.hasL (fun u hu hc => ?_) a1, a2, fun u hu => xM (a3 u hu).1 fun v hv => (a3 u hu).2 v hv⟩
    have := (a3 u hu).1
    rw [hc, hrole] at this; cases this
  ·obtain ⟨grole, gn, gs, gc, G1, G2, gr1, gr2⟩ := C.file g hgm
   have hgb' : g.b ≠ f.b := hgb
   refine ⟨owk _ _ grole, gn, gs, KX _ _ (fun hc => ?_) gc, Sk G1 (fun t ht hc => ?_), Sk G2 (fun t ht hc => ?_), fun t ht => owk _ _ (gr1 t ht), fun t ht => owk _ _ (gr2 t ht)⟩
   ·rcases hc with hc | hc
    ·rw [grole] at hc; cases hc
    ·exact hgb' hc
   ·have h9 := gr1 t ht
    rcases hc with hc | hc
    ·rw [h9] at hc; cases hc
    ·rw [hc, hrole] at h9; cases h9
   ·have h9 := gr2 t ht
    rcases hc with hc | hc
    ·rw [h9] at hc
     simp only [Option.some.injEq, Role.safe.injEq] at hc
     exact hgb' hc
    ·rw [hc, hrole] at h9; cases h9
 ·show ((upF D.files { f with safe := safe' }).map (·.name)).Nodup
  rw [zN2 (f' := { f with safe := safe' }) C.blocks hf rfl rfl]; exact C.names
 ·rw [show (upF D.files { f with safe := safe' }).map (·.b) = D.files.map (·.b) from zF7]; exact C.blocks
 ·obtain ⟨g, hg, e1, e2⟩ := C.pfile y hy
  by_cases hb : g.b = f.b
  ·have := yZ C.blocks hg hf hb
   subst this
   exact ⟨_, zAT hf rfl, e1, e2⟩
  ·exact ⟨g, List.mem_map.2 ⟨g, hg, if_neg hb⟩, e1, e2⟩
 ·rw [show (upF D.files { f with safe := safe' }).length = D.files.length by simp [upF]]; exact C.many
 ·have : (upF D.files { f with safe := safe' }).map (·.now.length) = D.files.map (·.now.length) := by
   unfold upF
   rw [List.map_map]
   apply List.map_congr_left
   intro g hg
   simp only [Function.comp]
   split
   ·rename_i hb
    rw [yZ C.blocks hg hf hb]
   ·rfl
  rw [this]; exact C.used
 ·rcases hc with hc | hc
  ·show ow b ≠ none /\ ow b ≠ some .map
   rw [hc]; simp
  ·show ow b ≠ none /\ ow b ≠ some .map
   rw [hc, hrole]; simp
end
section
variable {h h' : Heap} {ow ow' : zO} {p : Nat} {qL qP : OSl} {D : DS} {f : FA} {Q : AHp}
def saf (D : DS) (f : FA) (s : List Bs) : DS := { D with files := upF D.files { f with safe := s } }
theorem zI4 {s t : List Bs} : saf (saf D f s) { f with safe := s } t = saf D f t := by
 unfold saf
 simp only
 rw [zAS (f1 := { f with safe := s }) (f2 := { f with safe := t }) rfl]
theorem zNI {s : List Bs} (hf : f ∈ D.files) : { f with safe := s } ∈ (saf D f s).files := zAT hf rfl
set_option maxHeartbeats 1000000 in
theorem r197 {i : Nat} {q : OSl} {x : Bs} (C : RDC h ow p qL qP D) (hf : f ∈ D.files) (hs : f.safe.length <= 20000) (hi : i < 20000) (H : HasL byE h q x) (hx : x.length = 64) (hqo : ∀ t, q = some t -> ow t.b = none)
  (hQ : ∀ s' h' ow', s'.length <= 20000 -> RDC h' ow' p qL qP (saf D f s') -> yV ow h ow' h' -> Q (.tup []) h') : AC Tryz.prog 197 [.ptr (some ⟨f.b, 0⟩), .int .i64 (i : Nat), .sl q, .int .i64 64] h Q := ac197 (by
 unfold vc197 PNew zIR
 refine zB (fun g => by simp at g) (fun _ => ?_)
 have hself : saf D f f.safe = D := by
  unfold saf
  have : upF D.files { f with safe := f.safe } = D.files := zB8 C.blocks hf
  rw [this]
 refine ⟨fun xs h7 => xs = [] /\ ∃ (s' : List Bs) (ow7 : zO), s'.length <= 20000 /\ RDC h7 ow7 p qL qP (saf D f s') /\ yV ow h ow7 h7, fun _ h7 => match zA h7 ⟨f.b, 0 + 2⟩ 1 with | some [.sl q] => 20002 - zJ q | _ => 0, ⟨rfl, f.safe, ow, by omega, by rw [hself]; exact C, .refl _ _⟩, ?_⟩
 rintro h7 ⟨_, s', ow7, hs7, C7, S7⟩
 have hm7 := zNI (D := D) (s := s') hf
 obtain ⟨hrole, qn, qs, fc, S1, ⟨qss, A, hql, hel⟩, rn, rs⟩ := C7.file _ hm7
 simp only at hrole fc S1 rn rs hql hel
 have hfl := zD fc
 have c2 : zA h7 ⟨f.b, 0 + 2⟩ 1 = some [.sl qs] := by rw [zZ fc (by simp)]; rfl
 have hlen : zJ qs = s'.length := by rw [A.hasL.len, hql]
 refine ⟨qs, c2, ?_⟩
 rw [hlen]
 refine zB (fun g => ?_) (fun g => ?_)
 ·
  replace g := of_decide_eq_true g
  refine ⟨qs, c2, ?_⟩
  refine ⟨by omega, by omega, by omega, by simp only [maxI]; omega, ?_⟩
  have x13 : Ext h7 (h7 ++ [Blk.cells (List.replicate (64 : Int).toNat [AV.int .u8 0]).flatten true]) := .app _ _
  have z64 : (List.replicate (64 : Int).toNat [AV.int .u8 0]).flatten = byE.all (List.replicate 64 0) := by rw [jD]; rfl
  rw [z64] at x13 ⊢
  have ck : ∀ {hX : Heap}, Ext h7 hX -> ∃ q : OSl, zA hX ⟨f.b, 0 + 2⟩ 1 = some [.sl q] /\ LV.val (.sl q) = LV.val (.sl qs) := fun x => ⟨qs, by rw [zZ (x _ _ fc) (by simp)]; rfl, rfl⟩
  have x15 := x13.trans (.app (h7 ++ [Blk.cells (byE.all (List.replicate 64 0)) true]) [Blk.cells [.sl (some ⟨h7.length, 0, 64, 64, 0⟩)] true])
  refine ⟨ck x13, ck x15, ?_⟩
  have Hz : HasL byE (h7 ++ [Blk.cells (byE.all (List.replicate 64 0)) true]) (some ⟨h7.length, 0, 64, 64, 0⟩) (List.replicate 64 0) := HasL.new (E := byE) (by simp) rfl
  refine Apd.append (E := slE) (A.ext x15) (HasL.new (E := slE) (l := [some ⟨h7.length, 0, 64, 64, 0⟩]) (n := 1) rfl rfl) (by rw [hql]; simp; omega) fun q16 h17 A17 K17 l17 f17 => ?_
  have l17' : h7.length + 2 <= h17.length := by simpa using l17
  have fr16 : ∀ t, q16 = some t -> h7.length <= t.b ∨ ow7 t.b = some (.safe f.b) := fun t ht => by
   rcases f17 t ht with a | ⟨u, hu, hb⟩
   ·left; simp at a; omega
   ·right; rw [<- hb]; exact rs u hu
  have big16 : ∀ t, q16 = some t -> h7.length + 2 <= t.b ∨ ow7 t.b = some (.safe f.b) := fun t ht => by
   rcases f17 t ht with a | ⟨u, hu, hb⟩
   ·left; simp at a; omega
   ·right; rw [<- hb]; exact rs u hu
  have nn : ow7 h7.length = none := by
   cases ho : ow7 h7.length with
   | none => rfl
   | some r => have := C7.live h7.length (by rw [ho]; simp); omega
  have KX : zM (fun b => ow7 b = some (.safe f.b)) h7 h17 := fun c B hc hB => K17 _ _ (fun ⟨u, hu, hb⟩ => hc (by rw [<- hb]; exact rs u hu)) (x15 _ _ hB)
  have N := C7.setSafe (f := { f with safe := s' }) hm7 fc S1 rn (safe' := s' ++ [List.replicate 64 0]) A17 (by simp [hql]) (fun k t y h2 h3 => by
   rcases Nat.lt_or_ge k qss.length with hk | hk
   ·rw [List.getElem?_append_left hk] at h2
    rw [List.getElem?_append_left (by omega)] at h3
    obtain ⟨a1, a2, a3⟩ := hel k t y h2 h3
    refine ⟨KX.hasL (fun u hu hc => by rw [a3 u hu] at hc; cases hc) a1, a2, fun u hu => ⟨a3 u hu, fun v hv hc => ?_⟩⟩
    rcases fr16 v hv with b | b
    ·have := HasL.live a1 u hu; omega
    ·rw [hc, a3 u hu] at b; cases b
   ·rw [List.getElem?_append_right hk] at h2
    rw [List.getElem?_append_right (by omega), <- hql] at h3
    have hk0 : k - qss.length = 0 := by
     have := (List.getElem?_eq_some_iff.1 h2).1
     simpa using this
    rw [hk0] at h2 h3
    cases h2; cases h3
    refine ⟨K17.hasL (fun u hu ⟨v, hv, hb⟩ => ?_) (Hz.mono (.app _ _)), by simp, fun u hu => ?_⟩
    ·cases hu
     have := rs v hv
     simp only at hb
     rw [hb, nn] at this; cases this
    ·cases hu
     refine ⟨nn, fun v hv hc => ?_⟩
     rcases big16 v hv with b | b
     ·simp only at hc; omega
     ·simp only at hc; rw [hc, nn] at b; cases b) KX (by omega) fr16
  obtain ⟨C19, S19⟩ := N
  have fc17 := KX _ _ (fun hc => by have hc : ow7 f.b = some (.safe f.b) := hc; rw [hrole] at hc; cases hc) fc
  refine yD (o := 2) fc17 (by simp) ?_
  rw [show splice [AV.str f.name, .sl qn, .sl qs] 2 [.sl q16] = [AV.str f.name, .sl qn, .sl q16] from rfl]
  have hsaf : ({ (saf D f s') with files := upF (saf D f s').files { ({ f with safe := s' } : FA) with safe := s' ++ [List.replicate 64 0] } } : DS) = saf D f (s' ++ [List.replicate 64 0]) := zI4
  simp only at C19 S19
  have hfl17 := zD fc17
  have c19 : zA (h17.set f.b (.cells [.str f.name, .sl qn, .sl q16] true)) ⟨f.b, 0 + 2⟩ 1 = some [.sl q16] := by
   rw [zZ (List.getElem?_set_self hfl17) (by simp)]; rfl
  refine ⟨trivial, ⟨rfl, s' ++ [List.replicate 64 0], _, by simp; omega, by rw [<- hsaf]; exact C19, S7.trans S19⟩, ?_⟩
  simp only [c2, c19]
  have l16 : zJ q16 = s'.length + 1 := by rw [A17.hasL.len]; simp [hql]
  rw [hlen, l16]; omega
 ·replace g := of_decide_eq_false g
  have hil : i < s'.length := by omega
  have x23 : Ext h7 (h7 ++ [Blk.cells [] true]) := .app _ _
  refine ⟨qs, by rw [zZ (x23 _ _ fc) (by simp)]; rfl, ?_⟩
  have hqi : qss[i]? = some (qss[i]'(by omega)) := List.getElem?_eq_getElem _
  have hsi : s'[i]? = some s'[i] := List.getElem?_eq_getElem hil
  refine HasL.idx (E := slE) (A.hasL.mono x23) (by omega) (by omega) fun p26 q27 hq27 hc26 => ⟨q27, hc26, ?_⟩
  rw [Int.toNat_natCast] at hq27
  obtain ⟨Hc, hc64, hcn⟩ := hel i q27 _ hq27 hsi
  generalize s'[i] = y at Hc hc64 hsi
  refine zET (E := byE) Hc (by omega) fun q28 h29 N29 => ?_
  have x29 := N29.1
  obtain ⟨a, o, rfl, ho, hab⟩ : ∃ a o, q28 = some ⟨a, 0, 64, 64, o⟩ /\ (o = 0 ∨ o = 1) /\ h29[a]? = some (.cells (zR y) true) := by
   rcases N29.2.1 with ⟨rfl, hn⟩ | ⟨a, o, rfl, ho, hb⟩
   ·rw [hn] at hc64; cases hc64
   ·exact ⟨a, o, by rw [hc64], ho, by rw [<- jD]; exact hb⟩
  have hal := zD hab
  have han : h7.length <= a := N29.2.2 _ rfl
  have Hx7 : HasL byE h7 q x := S7.keeps.hasL (fun t ht hc => hc.1 (hqo t ht)) H
  have Hx29 := Hx7.mono x29
  have hqa : ∀ t, q = some t -> t.b ≠ a := fun t ht hc => by have := HasL.live Hx7 t ht; omega
  refine ⟨fun xs h33 => ∃ (k : Nat) (l : Bs), xs = [.int .i64 (k : Nat)] /\ k <= 64 /\ l.length = 64 /\ h33 = h29.set a (.cells (zR l) true), fun xs _ => match xs with | [.int _ k] => (64 - k).toNat | _ => 0, ⟨0, y, rfl, by omega, hc64, (List.ext_getElem? fun j => by
   rw [List.getElem?_set]
   by_cases hj : a = j
   ·subst hj; rw [if_pos rfl, if_pos hal, hab]
   ·rw [if_neg hj])⟩, ?_⟩
  rintro n30 h33 ⟨k, l, hxs, hk, hl64, rfl⟩
  simp only [List.cons.injEq, AV.int.injEq, true_and, and_true] at hxs
  subst hxs
  have K33 : zM (fun b => b = a) h29 (h29.set a (.cells (zR l) true)) := zT rfl
  have hg33 : (h29.set a (.cells (zR l) true))[a]? = some (.cells (zR l) true) := List.getElem?_set_self hal
  have blen : (zR l).length = 64 := by rw [zBL]; exact hl64
  have fin : ∀ (g2 : True), vPtr (some ⟨f.b, 0⟩) fun p38 => ∃ q39 : OSl, zA (h29.set a (.cells (zR l) true)) ⟨p38.b, p38.o + 2⟩ 1 = some [.sl q39] /\ vIdx q39 (i : Nat) 1 fun p40 => zI (h29.set a (.cells (zR l) true)) p40 [.sl (some ⟨a, 0, 64, 64, o⟩)] fun h41 => Q (.tup []) h41 := by
   intro _
   have K7 : zM (fun b => b = a) h7 (h29.set a (.cells (zR l) true)) := fun c B hc hB => K33 _ _ hc (x29 _ _ hB)
   have fc33 := K7 _ _ (by omega) fc
   refine ⟨qs, by rw [zZ fc33 (by simp)]; rfl, ?_⟩
   have A33 : Apd slE (h29.set a (.cells (zR l) true)) qs qss := A.keeps K7 fun t ht hc => by have := HasL.live A.hasL t ht; omega
   rcases A33 with ⟨_, hn⟩ | ⟨b, o2, rfl, ho2, hb⟩
   ·rw [hn] at hql; simp at hql; omega
   have rb := rs _ rfl
   simp only at rb
   have hbl := zD hb
   have hb7 := C7.live b (by rw [rb]; simp)
   refine ⟨by omega, by simp only; omega, ?_⟩
   simp only [Int.toNat_natCast, Nat.zero_add, Nat.mul_one]
   unfold zI
   simp only [hb]
   have hlq : (slE.all qss).length = qss.length := by rw [Enc.all_length]; exact Nat.mul_one _
   refine ⟨by rw [hlq]; simp; omega, ?_⟩
   have hspl := splice_set (E := slE) (i := i) (k := 0) (xs := [.sl (some ⟨a, 0, 64, 64, o⟩)]) (r' := some ⟨a, 0, 64, 64, o⟩) hqi (by simp [slE]) rfl
   rw [show i * slE.sz + 0 = i from Nat.mul_one i] at hspl
   rw [hspl]
   have K41 : zM (fun c => c = b) (h29.set a (.cells (zR l) true)) ((h29.set a (.cells (zR l) true)).set b (.cells (slE.all (qss.set i (some ⟨a, 0, 64, 64, o⟩))) true)) := zT rfl
   have hg41 : ((h29.set a (.cells (zR l) true)).set b (.cells (slE.all (qss.set i (some ⟨a, 0, 64, 64, o⟩))) true))[b]? = some (.cells (slE.all (qss.set i (some ⟨a, 0, 64, 64, o⟩))) true) := List.getElem?_set_self hbl
   have l41 : ((h29.set a (.cells (zR l) true)).set b (.cells (slE.all (qss.set i (some ⟨a, 0, 64, 64, o⟩))) true)).length = h29.length := by rw [List.length_set, List.length_set]
   have Ha41 : HasL byE ((h29.set a (.cells (zR l) true)).set b (.cells (slE.all (qss.set i (some ⟨a, 0, 64, 64, o⟩))) true)) (some ⟨a, 0, 64, 64, o⟩) l := by
    have : Apd byE (h29.set a (.cells (zR l) true)) (some ⟨a, 0, 64, 64, o⟩) l := Apd.mk hl64.symm ho (by rw [jD]; exact hg33)
    exact (this.keeps K41 fun t ht hc => by cases ht; simp only at hc; omega).hasL
   have KX : zM (fun c => ow7 c = some (.safe f.b)) h7 ((h29.set a (.cells (zR l) true)).set b (.cells (slE.all (qss.set i (some ⟨a, 0, 64, 64, o⟩))) true)) := fun c B hc hB => K41 _ _ (fun h => hc (by rw [h]; exact rb)) (K7 _ _ (fun h => by have := zD hB; omega) hB)
   have na : ow7 a = none := by
    cases ho3 : ow7 a with
    | none => rfl
    | some r => have := C7.live a (by rw [ho3]; simp); omega
   have x29l := x29.len
   generalize (h29.set a (.cells (zR l) true)).set b (.cells (slE.all (qss.set i (some ⟨a, 0, 64, 64, o⟩))) true) = h41 at *
   have N := C7.setSafe (f := { f with safe := s' }) hm7 fc S1 rn (safe' := s'.set i l) (q' := some ⟨b, 0, qss.length, qss.length, o2⟩) (qss := qss.set i (some ⟨a, 0, 64, 64, o⟩)) (.inr ⟨b, o2, by rw [List.length_set], ho2, hg41⟩) (by rw [List.length_set, List.length_set]; exact hql) (fun k2 t y2 h2 h3 => by
    by_cases hki : i = k2
    ·subst hki
     rw [List.getElem?_set_self (by omega)] at h2 h3
     cases h2; cases h3
     refine ⟨Ha41, hl64, fun u hu => ?_⟩
     cases hu
     exact ⟨na, fun v hv hc => by cases hv; simp only at hc; omega⟩
    ·rw [List.getElem?_set, if_neg hki] at h2 h3
     obtain ⟨a1, a2, a3⟩ := hel k2 t y2 h2 h3
     refine ⟨KX.hasL (fun u hu hc => by rw [a3 u hu] at hc; cases hc) a1, a2, fun u hu => ⟨a3 u hu, fun v hv hc => ?_⟩⟩
     cases hv
     simp only at hc
     rw [hc, a3 u hu] at rb; cases rb) KX (by omega) (fun t ht => by cases ht; exact .inr rb)
   obtain ⟨C41, S41⟩ := N
   have fc41 := KX _ _ (fun hc => by have hc : ow7 f.b = some (.safe f.b) := hc; rw [hrole] at hc; cases hc) fc
   have hset : h41.set f.b (.cells [.str f.name, .sl qn, .sl (some ⟨b, 0, qss.length, qss.length, o2⟩)] true) = h41 := List.ext_getElem? fun j => by
    rw [List.getElem?_set]
    by_cases hj : f.b = j
    ·subst hj; rw [if_pos rfl, if_pos (zD fc41), fc41]
    ·rw [if_neg hj]
   simp only at C41 S41
   rw [hset] at C41 S41
   have hsaf : ({ (saf D f s') with files := upF (saf D f s').files { ({ f with safe := s' } : FA) with safe := s'.set i l } } : DS) = saf D f (s'.set i l) := zI4
   exact hQ (s'.set i l) h41 _ (by rw [List.length_set]; exact hs7) (by rw [<- hsaf]; exact C41) (S7.trans S41)
  refine zB (fun g1 => zB (fun g2 => ?_) (fun _ => fin trivial)) (fun _ => fin trivial)
  replace g1 := of_decide_eq_true g1
  refine HasL.idx (E := byE) (K33.hasL (fun t ht hc => hqa t ht hc) Hx29) (by omega) (by omega) fun p34 v hv hc34 => ⟨_, hc34, ?_⟩
  refine ⟨by omega, by simp only; omega, ?_⟩
  simp only [Int.toNat_natCast, Nat.zero_add, Nat.mul_one]
  unfold zI
  simp only [hg33]
  rw [zF ⟨by omega, by omega⟩]
  refine ⟨by rw [blen]; simp; omega, trivial, ⟨k + 1, l.set k v, by simp, by omega, by rw [List.length_set]; exact hl64, ?_⟩, by omega⟩
  rw [List.set_set, zBU (by omega)])
end
section
variable {h h' : Heap} {ow ow' : zO} {p : Nat} {qL qP : OSl} {D : DS} {f : FA} {Q : AHp}
set_option maxRecDepth 20000 in
theorem zGG {h : Heap} {x b : Nat} {K : Bool -> Prop} (hx : ∃ c, h[x]? = some (.cells c true)) (hb : ∃ c, h[b]? = some (.cells c true))
  (hK : K (decide (x = b))) : aEq Tryz.prog 95 h (.ptr (some ⟨x, 0⟩)) (.ptr (some ⟨b, 0⟩)) K := by
 have hz : tsz Tryz.prog 99 = 3 := by kernel_rfl
 exact zPI (e := 99) Tryz.underlying95 (by rw [hz]; omega) hx hb hK
theorem RDC.noPend (C : RDC h ow p qL qP D) : RDC (h.set p (.cells [.sl qL, .sl none, .int .i64 D.limit, .int .i64 D.left, .bool D.off] true)) ow p qL none { D with pends := [] } /\ yV ow h ow (h.set p (.cells [.sl qL, .sl none, .int .i64 D.limit, .int .i64 D.left, .bool D.off] true)) := by
 have hpl := zD C.pb
 have K : zM (fun b => b = p) h (h.set p (.cells [.sl qL, .sl none, .int .i64 D.limit, .int .i64 D.left, .bool D.off] true)) := zT rfl
 have hg : (h.set p (.cells [.sl qL, .sl none, .int .i64 D.limit, .int .i64 D.left, .bool D.off] true))[p]? = some (.cells [.sl qL, .sl none, .int .i64 D.limit, .int .i64 D.left, .bool D.off] true) := List.getElem?_set_self hpl
 have hl : (h.set p (.cells [.sl qL, .sl none, .int .i64 D.limit, .int .i64 D.left, .bool D.off] true)).length = h.length := List.length_set
 have hp := C.pr
 generalize h.set p (.cells [.sl qL, .sl none, .int .i64 D.limit, .int .i64 D.left, .bool D.off] true) = h1 at *
 have nn : ∀ b, ow b = none -> b ≠ p := fun b hb hc => by rw [hc, hp] at hb; cases hb
 have no : ∀ b r, ow b = some r -> r ≠ .disk -> b ≠ p := fun b r hb hr hc => by rw [hc, hp] at hb; cases hb; exact hr rfl
 refine ⟨{ C with live := fun b hb => by have := C.live b hb; omega, pb := hg, lst := K.hasL (fun s hs => nn _ (C.lstr s hs)) C.lst, pnd := ⟨[], .inl ⟨rfl, rfl⟩, rfl, by simp⟩, pndr := by simp, file := fun g hgm => ?_, pfile := by simp }, fun b B hb hB => K _ _ (fun hc => hb (by have hc : b = p := hc; show ow b ≠ none /\ ow b ≠ some .map; rw [hc, hp]; simp)) hB, by omega, fun b hb => .inl hb, fun b h => h⟩
 obtain ⟨r, qn, qs, c, a1, a2, r1, r2⟩ := C.file g hgm
 exact ⟨r, qn, qs, K _ _ (no _ _ r (by simp)) c, a1.keeps K (fun s hs => no _ _ (r1 s hs) (by simp)) (fun b hb _ => nn b hb) (fun b hb _ => hb), a2.keeps K (fun s hs => no _ _ (r2 s hs) (by simp)) (fun b hb _ => nn b hb) (fun b hb _ => hb), r1, r2⟩
theorem zQL {l : List FA} (hf : f ∈ l) : f.now.length <= (l.map (·.now.length)).sum := by
 induction l with
 | nil => cases hf
 | cons a l ih =>
  simp only [List.map_cons, List.sum_cons]
  rcases List.mem_cons.1 hf with rfl | hm
  ·omega
  ·have := ih hm; omega
set_option maxRecDepth 20000 in
set_option maxHeartbeats 1000000 in
theorem r129 {s : Bs} (C : RDC h ow p qL qP D) (hon : D.off = false) (hleft : D.left = -1) (hf : D.find s = some f) (hall : ∀ x ∈ D.pends, x.1 = f.b) (hpl : D.pends.length <= 1000000) (hs : f.safe.length <= 20000)
  (hQ : ∀ s' h' ow', s'.length <= 20000 -> RDR h' ow' p { saf D f s' with pends := [] } -> yV ow h ow' h' -> Q (.int .i64 0) h') : AC Tryz.prog 129 [.ptr (some ⟨p, 0⟩), .str s] h Q := ac129 (by
 unfold vc129
 obtain ⟨hfm, hfn⟩ := jN hf
 refine r55 C (fun hn => by rw [hf] at hn; cases hn) fun f' hf' => ⟨_, rfl, ?_⟩
 rw [hf] at hf'; cases hf'
 refine zB (fun g => by simp at g) (fun _ => r199 C hon hleft ⟨_, rfl, zB (fun g => by simp at g) (fun _ => ?_)⟩)
 have hself : saf D f f.safe = D := by
  unfold saf
  have : upF D.files { f with safe := f.safe } = D.files := zB8 C.blocks hfm
  rw [this]
 refine ⟨fun xs h50 => ∃ (i : Nat) (s' : List Bs) (ow5 : zO), xs = [.sl none, .int .i64 (i : Nat)] /\ i <= D.pends.length /\ s'.length <= 20000 /\ RDC h50 ow5 p qL qP (saf D f s') /\ yV ow h ow5 h50, fun xs _ => match xs with | [_, .int _ i] => (D.pends.length - i).toNat | _ => 0, ⟨0, f.safe, ow, rfl, by omega, hs, by rw [hself]; exact C, .refl _ _⟩, ?_⟩
 rintro q46 n47 h50 ⟨i, s', ow5, hx, hi, hs', C5, S5⟩
 simp only [List.cons.injEq, AV.int.injEq, AV.sl.injEq, true_and, and_true] at hx
 obtain ⟨rfl, rfl⟩ := hx
 obtain ⟨ps, B, hpsl, hpel⟩ := C5.pnd
 have hP : (saf D f s').pends = D.pends := rfl
 rw [hP] at hpsl hpel
 have hm5 := zNI (D := D) (s := s') hfm
 refine ⟨qP, C5.at (k := 1) rfl, ?_⟩
 rw [B.hasL.len, hpsl]
 refine zB (fun g => ?_) (fun g => ?_)
 ·replace g := of_decide_eq_true g
  have hil : i < D.pends.length := by omega
  have hy : D.pends[i]? = some D.pends[i] := List.getElem?_eq_getElem hil
  generalize D.pends[i] = y at hy
  have hym := List.mem_of_getElem? hy
  refine ⟨qP, C5.at (k := 1) rfl, ?_⟩
  refine HasL.idx (E := pdE) B.hasL (by omega) (by omega) fun p18 x hx hc18 => ?_
  rw [Int.toNat_natCast] at hx
  obtain ⟨x1, x2, Hx, h64, hxo⟩ := hpel i x y hx hy
  have hxb : x.1 = f.b := by rw [x1, hall y hym]
  obtain ⟨hrole, qn, qs, fc, _⟩ := C5.file _ hm5
  have hfc : ∃ c, h50[f.b]? = some (.cells c true) := ⟨_, fc⟩
  have c0 : zA h50 ⟨p18.b, p18.o + 0⟩ 1 = some [.ptr (some ⟨f.b, 0⟩)] := by
   rw [zW hc18 (by simp [pdE]), <- hxb]; rfl
  refine ⟨_, c0, ?_⟩
  refine zGG (x := f.b) (b := f.b) hfc hfc ?_
  refine zB (fun _ => ?_) (fun g => by simp at g)
  refine ⟨qP, C5.at (k := 1) rfl, ?_⟩
  refine HasL.idx (E := pdE) B.hasL (by omega) (by omega) fun p23 x' hx' hc23 => ?_
  rw [Int.toNat_natCast, hx] at hx'
  cases hx'
  refine ⟨_, by rw [zW hc23 (by simp [pdE])]; rfl, ?_⟩
  refine ⟨qP, C5.at (k := 1) rfl, ?_⟩
  refine HasL.idx (E := pdE) B.hasL (by omega) (by omega) fun p27 x' hx' hc27 => ?_
  rw [Int.toNat_natCast, hx] at hx'
  cases hx'
  refine ⟨_, by rw [zW hc27 (by simp [pdE])]; rfl, ?_⟩
  obtain ⟨g, hg, hgb, hlt⟩ := C.pfile y hym
  have : g = f := yZ C.blocks hg hfm (by rw [hgb, hall y hym])
  subst this
  have h1 := zQL hg
  have h2 := C.used
  refine r197 (f := { g with safe := s' }) C5 hm5 hs' (by omega) Hx h64 hxo fun s2 h30 ow30 hs2 C30 S30 => ⟨rfl, trivial, ?_⟩
  rw [zI4] at C30
  rw [zF ⟨by omega, by omega⟩]
  exact ⟨⟨i + 1, s2, ow30, by simp, by omega, hs2, C30, S5.trans S30⟩, by simp only; omega⟩
 ·replace g := of_decide_eq_false g
  obtain ⟨C6, S6⟩ := C5.noPend
  refine yD C5.pb (by simp) ?_
  exact hQ s' _ ow5 hs' ⟨_, _, C6⟩ (S5.trans S6))
end
structure RDX (h : Heap) (ow : zO) (p : Nat) (qL qP : OSl) (D : DS) (L : List FA) : Prop where
 live : ∀ b, ow b ≠ none -> b < h.length
 pr : ow p = some .disk
 pb : h[p]? = some (.cells [.sl qL, .sl qP, .int .i64 D.limit, .int .i64 D.left, .bool D.off] true)
 lst : HasL plE h qL (L.map (·.b))
 lstr : ∀ s, qL = some s -> ow s.b = none
 pnd : ∃ ps : List (Nat × Nat × OSl), Apd pdE h qP ps /\ ps.length = D.pends.length /\ ∀ (k : Nat) (x : Nat × Nat × OSl) (y : PD), ps[k]? = some x -> D.pends[k]? = some y -> x.1 = y.1 /\ x.2.1 = y.2.1 /\ HasL byE h x.2.2 y.2.2 /\ y.2.2.length = 64 /\ ∀ s, x.2.2 = some s -> ow s.b = none
 pndr : ∀ s, qP = some s -> ow s.b = some .pends
 file : ∀ f ∈ D.files, RFile h ow f
 names : (D.files.map (·.name)).Nodup
 blocks : (D.files.map (·.b)).Nodup
 pfile : ∀ x ∈ D.pends, ∃ f ∈ D.files, f.b = x.1 /\ x.2.1 < f.now.length
 many : D.files.length <= 256
 used : (D.files.map (·.now.length)).sum <= 16384
 lim : D.limit <= 16384
 lft : -1 <= D.left /\ D.left <= 9223372036854775807
 sub : ∀ f ∈ L, f ∈ D.files
 len : L.length <= 256
section
variable {h h' : Heap} {ow ow' : zO} {p : Nat} {qL qP : OSl} {D : DS} {L : List FA} {f : FA} {Q : AHp}
theorem RDC.x (C : RDC h ow p qL qP D) : RDX h ow p qL qP D D.files := { C with sub := fun f hf => hf, len := C.many }
theorem RDX.ext (C : RDX h ow p qL qP D L) (K : zM (fun b => b ≥ h.length) h h') (hl : h.length <= h'.length) : RDX h' ow p qL qP D L := by
 have lt : ∀ b, b < h.length -> ¬ b ≥ h.length := fun b hb => by omega
 have lv : ∀ b, ow b ≠ none -> ¬ b ≥ h.length := fun b hb => by have := C.live b hb; omega
 refine { C with live := fun b hb => by have := C.live b hb; omega, pb := K _ _ (lv p (by simp [C.pr])) C.pb, lst := K.hasL (fun s hs => lt _ (HasL.live C.lst s hs)) C.lst, pnd := ?_, file := fun f hf => ?_ }
 ·obtain ⟨ps, A, hl2, hel⟩ := C.pnd
  refine ⟨ps, A.keeps K (fun s hs => lv _ (by simp [C.pndr s hs])), hl2, fun k x y h1 h2 => ?_⟩
  obtain ⟨a, b, c, d, e⟩ := hel k x y h1 h2
  exact ⟨a, b, K.hasL (fun s hs => lt _ (HasL.live c s hs)) c, d, e⟩
 ·obtain ⟨r, qn, qs, c, a1, a2, r1, r2⟩ := C.file f hf
  exact ⟨r, qn, qs, K _ _ (lv _ (by simp [r])) c, a1.keeps K (fun s hs => lv _ (by simp [r1 s hs])) (fun b _ hb => lt b hb) (fun b hb _ => hb), a2.keeps K (fun s hs => lv _ (by simp [r2 s hs])) (fun b _ hb => lt b hb) (fun b hb _ => hb), r1, r2⟩
theorem RDX.grow (C : RDX h ow p qL qP D L) (x : Ext h h') : RDX h' ow p qL qP D L := C.ext (fun b B _ hB => x b B hB) x.len
theorem RDX.at (C : RDX h ow p qL qP D L) {k : Nat} {x : AV} (hx : [AV.sl qL, .sl qP, .int .i64 D.limit, .int .i64 D.left, .bool D.off][k]? = some x) : zA h ⟨p, 0 + k⟩ 1 = some [x] := by
 have hk : k < 5 := by
  have := (List.getElem?_eq_some_iff.1 hx).1
  simpa using this
 rw [zZ C.pb (by simp only [List.length_cons, List.length_nil]; omega)]
 match k, hk with
 | 0, _ | 1, _ | 2, _ | 3, _ | 4, _ => cases hx; rfl
theorem RDX.setL {q : OSl} {L' : List FA} (C : RDX h ow p qL qP D L) (H : HasL plE h q (L'.map (·.b))) (hq : ∀ s, q = some s -> ow s.b = none) (hs : ∀ f ∈ L', f ∈ D.files) (hl : L'.length <= 256) :
  RDX (h.set p (.cells [.sl q, .sl qP, .int .i64 D.limit, .int .i64 D.left, .bool D.off] true)) ow p q qP D L' /\ yV ow h ow (h.set p (.cells [.sl q, .sl qP, .int .i64 D.limit, .int .i64 D.left, .bool D.off] true)) := by
 have hpl := zD C.pb
 have K : zM (fun b => b = p) h (h.set p (.cells [.sl q, .sl qP, .int .i64 D.limit, .int .i64 D.left, .bool D.off] true)) := zT rfl
 have hg : (h.set p (.cells [.sl q, .sl qP, .int .i64 D.limit, .int .i64 D.left, .bool D.off] true))[p]? = some (.cells [.sl q, .sl qP, .int .i64 D.limit, .int .i64 D.left, .bool D.off] true) := List.getElem?_set_self hpl
 have hlen : (h.set p (.cells [.sl q, .sl qP, .int .i64 D.limit, .int .i64 D.left, .bool D.off] true)).length = h.length := List.length_set
 have hp := C.pr
 generalize h.set p (.cells [.sl q, .sl qP, .int .i64 D.limit, .int .i64 D.left, .bool D.off] true) = h1 at *
 have nn : ∀ b, ow b = none -> b ≠ p := fun b hb hc => by rw [hc, hp] at hb; cases hb
 have no : ∀ b r, ow b = some r -> r ≠ .disk -> b ≠ p := fun b r hb hr hc => by rw [hc, hp] at hb; cases hb; exact hr rfl
 refine ⟨{ C with live := fun b hb => by have := C.live b hb; omega, pb := hg, lst := K.hasL (fun s hs => nn _ (hq s hs)) H, lstr := hq, pnd := ?_, file := fun g hgm => ?_, sub := hs, len := hl }, fun b B hb hB => K _ _ (fun hc => hb (by have hc : b = p := hc; show ow b ≠ none /\ ow b ≠ some .map; rw [hc, hp]; simp)) hB, by omega, fun b hb => .inl hb, fun b h => h⟩
 ·obtain ⟨ps, A, hl2, hel⟩ := C.pnd
  refine ⟨ps, A.keeps K (fun s hs => no _ _ (C.pndr s hs) (by simp)), hl2, fun k x y h1 h2 => ?_⟩
  obtain ⟨a, b, c, d, e⟩ := hel k x y h1 h2
  exact ⟨a, b, K.hasL (fun s hs => nn _ (e s hs)) c, d, e⟩
 ·obtain ⟨r, qn, qs, c, a1, a2, r1, r2⟩ := C.file g hgm
  exact ⟨r, qn, qs, K _ _ (no _ _ r (by simp)) c, a1.keeps K (fun s hs => no _ _ (r1 s hs) (by simp)) (fun b hb _ => nn b hb) (fun b hb _ => hb), a2.keeps K (fun s hs => no _ _ (r2 s hs) (by simp)) (fun b hb _ => nn b hb) (fun b hb _ => hb), r1, r2⟩
theorem RDX.setP {q : OSl} {ps : List (Nat × Nat × OSl)} {P' : List PD} (C : RDX h ow p qL qP D L) (N : New pdE h h' q ps) (hl : ps.length = P'.length)
  (hel : ∀ (k : Nat) (x : Nat × Nat × OSl) (y : PD), ps[k]? = some x -> P'[k]? = some y -> x.1 = y.1 /\ x.2.1 = y.2.1 /\ HasL byE h x.2.2 y.2.2 /\ y.2.2.length = 64 /\ ∀ s, x.2.2 = some s -> ow s.b = none) (hs : ∀ x ∈ P', x ∈ D.pends) :
  RDX (h'.set p (.cells [.sl qL, .sl q, .int .i64 D.limit, .int .i64 D.left, .bool D.off] true)) (yP ow q .pends) p qL q { D with pends := P' } L /\ yV ow h (yP ow q .pends) (h'.set p (.cells [.sl qL, .sl q, .int .i64 D.limit, .int .i64 D.left, .bool D.off] true)) := by
 have C' := C.grow N.1
 have hpl := zD C'.pb
 have hx := N.1.len
 have K1 : zM (fun b => b = p) h' (h'.set p (.cells [.sl qL, .sl q, .int .i64 D.limit, .int .i64 D.left, .bool D.off] true)) := zT rfl
 have K : zM (fun b => b = p) h (h'.set p (.cells [.sl qL, .sl q, .int .i64 D.limit, .int .i64 D.left, .bool D.off] true)) := fun b B hb hB => K1 b B hb (N.1 b B hB)
 have hg : (h'.set p (.cells [.sl qL, .sl q, .int .i64 D.limit, .int .i64 D.left, .bool D.off] true))[p]? = some (.cells [.sl qL, .sl q, .int .i64 D.limit, .int .i64 D.left, .bool D.off] true) := List.getElem?_set_self hpl
 have hlen : (h'.set p (.cells [.sl qL, .sl q, .int .i64 D.limit, .int .i64 D.left, .bool D.off] true)).length = h'.length := List.length_set
 have hp := C.pr
 have hq : ∀ s, q = some s -> h.length <= s.b := N.2.2
 have hql : ∀ s, q = some s -> s.b < h'.length := fun s hs => HasL.live N.hasL s hs
 generalize h'.set p (.cells [.sl qL, .sl q, .int .i64 D.limit, .int .i64 D.left, .bool D.off] true) = h1 at *
 have nn : ∀ b, ow b = none -> b ≠ p := fun b hb hc => by rw [hc, hp] at hb; cases hb
 have no : ∀ b r, ow b = some r -> r ≠ .disk -> b ≠ p := fun b r hb hr hc => by rw [hc, hp] at hb; cases hb; exact hr rfl
 have kp := jQ (ow := ow) (q := q) (r := .pends) (n := h.length) C.live fun s hs => .inl (hq s hs)
 have ot : ∀ b, ow b = none -> b < h.length -> yP ow q .pends b = none := fun b hb hlt => xM hb fun s hs hc => by have := hq s hs; omega
 refine ⟨{ C with live := fun b hb => ?_, pr := kp _ _ hp, pb := hg, lst := K.hasL (fun s hs => nn _ (C.lstr s hs)) C.lst, lstr := fun s hs => ot _ (C.lstr s hs) (HasL.live C.lst s hs), pnd := ⟨ps, N.2.1.keeps K1 (fun s hs hc => by have := hq s hs; have h2 : s.b = p := hc; have := zD C.pb; omega), hl, fun k x y h1 h2 => ?_⟩, pndr := fun s hs => kX s hs, file := fun g hgm => ?_, pfile := fun x hx => C.pfile x (hs x hx) }, fun b B hb hB => K _ _ (fun hc => hb (by have hc : b = p := hc; show ow b ≠ none /\ ow b ≠ some .map; rw [hc, hp]; simp)) hB, by omega, fun b hb => ?_, fun b hb => kp _ _ hb⟩
 ·rcases xF (n := h.length) (fun s hs => .inl (hq s hs)) b hb with h2 | h2
  ·have := C.live b h2; omega
  ·by_cases ho : ow b = none
   ·unfold yP at hb
    cases hqq : q with
    | none => rw [hqq] at hb; exact absurd ho hb
    | some s =>
     rw [hqq] at hb
     simp only at hb
     split at hb
     ·rename_i he
      have := hql s hqq; omega
     ·exact absurd ho hb
   ·have := C.live b ho; omega
 ·obtain ⟨a, b, c, d, e⟩ := hel k x y h1 h2
  exact ⟨a, b, K.hasL (fun s hs => nn _ (e s hs)) c, d, fun s hs => ot _ (e s hs) (HasL.live c s hs)⟩
 ·obtain ⟨r, qn, qs, c, a1, a2, r1, r2⟩ := C.file g hgm
  exact ⟨kp _ _ r, qn, qs, K _ _ (no _ _ r (by simp)) c, a1.keeps K (fun s hs => no _ _ (r1 s hs) (by simp)) (fun b hb _ => nn b hb) ot, a2.keeps K (fun s hs => no _ _ (r2 s hs) (by simp)) (fun b hb _ => nn b hb) ot, fun s hs => kp _ _ (r1 s hs), fun s hs => kp _ _ (r2 s hs)⟩
 ·exact xF (n := h.length) (fun s hs => .inl (hq s hs)) b hb
end
section
variable {h h' : Heap} {ow ow' : zO} {p : Nat} {qL qP : OSl} {D : DS} {L : List FA} {f : FA} {Q : AHp}
def offB (b : Nat) (g : FA) : Bool := !(g.b == b)
def stay (b3 : Bool) (b : Nat) (x : PD) : Bool := b3 || notB b x
theorem yU {α : Type} {g : α -> Bool} {l : List α} {i : Nat} {x : α} (h : l[i]? = some x) : (l.take (i + 1)).filter g = (l.take i).filter g ++ (if g x then [x] else []) := by
 rw [List.take_add_one, h, List.filter_append]
 simp only [Option.toList_some, List.filter_cons, List.filter_nil]
set_option maxRecDepth 20000 in
set_option maxHeartbeats 1000000 in
theorem r257 {b3 : Bool} (C : RDX h ow p qL qP D L) (hf : f ∈ D.files) (hpl : D.pends.length <= 1000000)
  (hQ : ∀ q q' h' ow', RDX h' ow' p q q' { D with pends := D.pends.filter (stay b3 f.b) } (L.filter (offB f.b)) -> yV ow h ow' h' -> Q (.tup []) h') : AC Tryz.prog 257 [.ptr (some ⟨p, 0⟩), .ptr (some ⟨f.b, 0⟩), .bool b3] h Q := ac257 (by
 unfold vc257 PNew
 have hll := C.len
 have fcell : ∀ {h8 : Heap} {qa qb : OSl} {D' : DS} {L' : List FA} {ow' : zO}, RDX h8 ow' p qa qb D' L' -> ∀ g ∈ D'.files, ∃ c, h8[g.b]? = some (.cells c true) := fun C g hg => by
  obtain ⟨_, qn, qs, fc, _⟩ := C.file g hg
  exact ⟨_, fc⟩
 refine ⟨fun xs h8 => ∃ (q4 : OSl) (i : Nat), xs = [.sl q4, .int .i64 (i : Nat)] /\ i <= L.length /\ New plE h h8 q4 (((L.take i).filter (offB f.b)).map (·.b)), fun xs _ => match xs with | [_, .int _ i] => (L.length - i).toNat | _ => 0, ⟨none, 0, rfl, by omega, by simpa using New.none⟩, ?_⟩
 rintro q4 n5 h8 ⟨q4', i, hx, hi, N⟩
 simp only [List.cons.injEq, AV.int.injEq, AV.sl.injEq, true_and, and_true] at hx
 obtain ⟨rfl, rfl⟩ := hx
 have C8 := C.grow N.1
 refine ⟨qL, C8.at (k := 0) rfl, ?_⟩
 have hqL := C8.lst.len
 rw [List.length_map] at hqL
 rw [hqL]
 refine zB (fun g => ?_) (fun g => ?_)
 ·replace g := of_decide_eq_true g
  have hil : i < L.length := by omega
  obtain ⟨y, hy⟩ : ∃ y, L[i]? = some y := ⟨_, List.getElem?_eq_getElem hil⟩
  have hyb : (L.map (·.b))[i]? = some y.b := by rw [List.getElem?_map, hy]; rfl
  have hym := C.sub y (List.mem_of_getElem? hy)
  refine ⟨qL, C8.at (k := 0) rfl, ?_⟩
  refine HasL.idx (E := plE) C8.lst (by omega) (by rw [List.length_map]; omega) fun p13 x hx hc => ⟨_, hc, ?_⟩
  rw [Int.toNat_natCast, hyb] at hx
  cases hx
  refine zGG (fcell C8 y hym) (fcell C8 f hf) ?_
  have hw : zE .i64 (((i : Nat) : Int) + 1) = ((i + 1 : Nat) : Int) := by rw [zF ⟨by omega, by omega⟩]; omega
  refine zB (fun g2 => ?_) (fun g2 => ?_)
  ·have hne : offB f.b y = true := by simpa [offB] using g2
   refine ⟨qL, C8.at (k := 0) rfl, ?_⟩
   refine HasL.idx (E := plE) C8.lst (by omega) (by rw [List.length_map]; omega) fun p18 x hx hc2 => ⟨_, hc2, ?_⟩
   rw [Int.toNat_natCast, hyb] at hx
   cases hx
   refine (N.ext (.app _ _)).append (E := plE) (HasL.new (E := plE) (l := [y.b]) (n := 1) rfl rfl) (by simp; have := List.length_filter_le (offB f.b) (L.take i); rw [List.length_take] at this; omega) fun q22 h23 N2 => ?_
   refine ⟨trivial, ⟨q22, i + 1, by rw [hw], by omega, ?_⟩, by rw [hw]; simp only; omega⟩
   rw [yU hy, if_pos hne, List.map_append]
   exact N2
  ·have hne : offB f.b y = false := by simpa [offB] using g2
   refine ⟨trivial, ⟨q4, i + 1, by rw [hw], by omega, ?_⟩, by rw [hw]; simp only; omega⟩
   rw [yU hy, if_neg (by simp [hne]), List.append_nil]
   exact N
 ·replace g := of_decide_eq_false g
  have : i = L.length := by omega
  subst this
  rw [List.take_length] at N
  obtain ⟨C25, S25⟩ := C8.setL N.hasL (fun s hs => by
   have := N.2.2 s hs
   by_cases ho : ow s.b = none
   ·exact ho
   ·have := C.live _ ho; omega) (fun g hg => C.sub g (List.mem_filter.1 hg).1) (by have := List.length_filter_le (offB f.b) L; omega)
  refine yD C8.pb (by simp) ?_
  have hsp : splice [AV.sl qL, .sl qP, .int .i64 D.limit, .int .i64 D.left, .bool D.off] 0 [.sl q4] = [.sl q4, .sl qP, .int .i64 D.limit, .int .i64 D.left, .bool D.off] := rfl
  rw [hsp]
  have S25' : yV ow h ow (h8.set p (.cells [.sl q4, .sl qP, .int .i64 D.limit, .int .i64 D.left, .bool D.off] true)) := (yV.ext N.1).trans S25
  generalize h8.set p (.cells [.sl q4, .sl qP, .int .i64 D.limit, .int .i64 D.left, .bool D.off] true) = h25 at *
  obtain ⟨ps, B, hpsl, hpel⟩ := C25.pnd
  refine ⟨fun xs h30 => ∃ (q26 : OSl) (i : Nat) (ps1 : List (Nat × Nat × OSl)), xs = [.sl q26, .int .i64 (i : Nat)] /\ i <= D.pends.length /\ New pdE h25 h30 q26 ps1 /\ ps1.length = ((D.pends.take i).filter (stay b3 f.b)).length /\
   (∀ (k : Nat) (x : Nat × Nat × OSl) (y : PD), ps1[k]? = some x -> ((D.pends.take i).filter (stay b3 f.b))[k]? = some y -> x.1 = y.1 /\ x.2.1 = y.2.1 /\ HasL byE h25 x.2.2 y.2.2 /\ y.2.2.length = 64 /\ ∀ s, x.2.2 = some s -> ow s.b = none), fun xs _ => match xs with | [_, .int _ i] => (D.pends.length - i).toNat | _ => 0, ⟨none, 0, [], rfl, by omega, New.none, by simp, by simp⟩, ?_⟩
  rintro q26 n27 h30 ⟨q26', i, ps1, hx, hi, N1, hl1, he1⟩
  simp only [List.cons.injEq, AV.int.injEq, AV.sl.injEq, true_and, and_true] at hx
  obtain ⟨rfl, rfl⟩ := hx
  have C30 := C25.grow N1.1
  have B30 := B.ext N1.1
  refine ⟨qP, C30.at (k := 1) rfl, ?_⟩
  rw [B30.hasL.len, hpsl]
  refine zB (fun g => ?_) (fun g => ?_)
  ·replace g := of_decide_eq_true g
   have hil : i < D.pends.length := by omega
   obtain ⟨y, hy⟩ : ∃ y, D.pends[i]? = some y := ⟨_, List.getElem?_eq_getElem hil⟩
   obtain ⟨x, hx⟩ : ∃ x, ps[i]? = some x := ⟨_, List.getElem?_eq_getElem (by omega)⟩
   have hxy := hpel i x y hx hy
   have hw : zE .i64 (((i : Nat) : Int) + 1) = ((i + 1 : Nat) : Int) := by rw [zF ⟨by omega, by omega⟩]; omega
   have put : stay b3 f.b y = true -> vPtr (some (⟨p, 0⟩ : PA)) fun p33 => ∃ q34 : OSl, zA h30 ⟨p33.b, p33.o + 1⟩ 1 = some [.sl q34] /\
     vIdx q34 ((i : Nat) : Int) 3 fun p35 => ∃ p36 : OPa, ∃ n37 : Int, ∃ q38 : OSl, zA h30 p35 3 = some [.ptr p36, .int .i64 n37, .sl q38] /\
     zC 3 40 q26 (some ⟨h30.length, 0, 1, 1, 0⟩) (h30 ++ [.cells [.ptr p36, .int .i64 n37, .sl q38] true]) fun q41 h42 =>
     (True) /\ (∃ (q26 : OSl) (i' : Nat) (ps1 : List (Nat × Nat × OSl)), [AV.sl q41, .int .i64 (zE .i64 (((i : Nat) : Int) + 1))] = [.sl q26, .int .i64 (i' : Nat)] /\ i' <= D.pends.length /\ New pdE h25 h42 q26 ps1 /\ ps1.length = ((D.pends.take i').filter (stay b3 f.b)).length /\
      (∀ (k : Nat) (x : Nat × Nat × OSl) (y : PD), ps1[k]? = some x -> ((D.pends.take i').filter (stay b3 f.b))[k]? = some y -> x.1 = y.1 /\ x.2.1 = y.2.1 /\ HasL byE h25 x.2.2 y.2.2 /\ y.2.2.length = 64 /\ ∀ s, x.2.2 = some s -> ow s.b = none)) /\ (((D.pends.length : Nat) : Int) - zE .i64 (((i : Nat) : Int) + 1)).toNat < (((D.pends.length : Nat) : Int) - ((i : Nat) : Int)).toNat := by
    intro hst
    refine ⟨qP, C30.at (k := 1) rfl, ?_⟩
    refine HasL.idx (E := pdE) B30.hasL (by omega) (by omega) fun p35 x' hx' hc => ?_
    rw [Int.toNat_natCast, hx] at hx'
    cases hx'
    refine ⟨_, _, _, hc, ?_⟩
    have hfl := List.length_filter_le (stay b3 f.b) (D.pends.take i)
    rw [List.length_take] at hfl
    refine (N1.ext (.app _ _)).append (E := pdE) (HasL.new (E := pdE) (l := [x]) (n := 1) rfl rfl) (by simp; omega) fun q41 h42 N2 => ?_
    refine ⟨trivial, ⟨q41, i + 1, ps1 ++ [x], by rw [hw], by omega, N2, ?_, ?_⟩, by rw [hw]; omega⟩
    ·rw [yU hy, if_pos hst, List.length_append, List.length_append, hl1]; rfl
    ·intro k x' y' h1 h2
     rw [yU hy, if_pos hst] at h2
     by_cases hk : k < ps1.length
     ·rw [List.getElem?_append_left hk] at h1
      rw [List.getElem?_append_left (by omega)] at h2
      exact he1 k x' y' h1 h2
     ·have hk2 : k = ps1.length := by
       have := zD h1
       simp at this; omega
      subst hk2
      rw [List.getElem?_append_right (by omega), Nat.sub_self] at h1
      rw [List.getElem?_append_right (by omega), hl1, Nat.sub_self] at h2
      cases h1; cases h2
      exact hxy
   refine zB (fun g2 => put (by simp [stay, g2])) (fun g2 => ?_)
   refine ⟨qP, C30.at (k := 1) rfl, ?_⟩
   refine HasL.idx (E := pdE) B30.hasL (by omega) (by omega) fun p45 x' hx' hc => ?_
   rw [Int.toNat_natCast, hx] at hx'
   cases hx'
   refine ⟨_, by rw [zW hc (by simp [pdE])]; rfl, ?_⟩
   obtain ⟨gf, hgf, hgb, _⟩ := C.pfile y (List.mem_of_getElem? hy)
   refine zGG (b := f.b) (by rw [hxy.1, <- hgb]; exact fcell C30 gf hgf) (fcell C30 f hf) ?_
   refine zB (fun g3 => put ?_) (fun g3 => ?_)
   ·have : ¬ x.1 = f.b := by simpa using g3
    rw [hxy.1] at this
    simp [stay, notB, this]
   ·have : x.1 = f.b := by simpa using g3
    rw [hxy.1] at this
    have hst : stay b3 f.b y = false := by simp [stay, notB, this, g2]
    refine ⟨trivial, ⟨q26, i + 1, ps1, by rw [hw], by omega, N1, ?_, ?_⟩, by rw [hw]; simp only; omega⟩
    ·rw [yU hy, if_neg (by simp [hst]), List.append_nil]; exact hl1
    ·rw [yU hy, if_neg (by simp [hst]), List.append_nil]; exact he1
  ·replace g := of_decide_eq_false g
   have : i = D.pends.length := by omega
   subst this
   rw [List.take_length] at hl1 he1
   obtain ⟨C6, S6⟩ := C25.setP N1 hl1 he1 (fun x hx => (List.mem_filter.1 hx).1)
   refine yD C30.pb (by simp) ?_
   exact hQ _ _ _ _ C6 (S25'.trans S6))
end
section
variable {h h' : Heap} {ow ow' : zO} {p : Nat} {qL qP : OSl} {D : DS} {L : List FA} {f : FA} {Q : AHp}
theorem sum_sub {l l' : List FA} (s : l.Sublist l') : (l.map (·.now.length)).sum <= (l'.map (·.now.length)).sum := by
 induction s with
 | slnil => simp
 | cons a _ ih => simp only [List.map_cons, List.sum_cons]; omega
 | cons_cons a _ ih => simp only [List.map_cons, List.sum_cons]; omega
theorem RDX.c (C : RDX h ow p qL qP D L) (s : L.Sublist D.files) (hp : ∀ x ∈ D.pends, ∃ f ∈ L, f.b = x.1 /\ x.2.1 < f.now.length) : RDC h ow p qL qP { D with files := L } :=
 ⟨C.live, C.pr, C.pb, C.lst, C.lstr, C.pnd, C.pndr, fun f hf => C.file f (C.sub f hf), C.names.sublist (s.map _), C.blocks.sublist (s.map _), hp, C.len, Nat.le_trans (sum_sub s) C.used, C.lim, C.lft⟩
end
theorem zAB {α : Type} {p : α -> Bool} : ∀ {i : Nat} {L : List α}, (∀ k g, k < i -> L[k]? = some g -> p g = true) -> (∀ g, L[i]? = some g -> p g = false) -> L.takeWhile p = L.take i /\ L.dropWhile p = L.drop i
 | 0, [], _, _ => by simp
 | 0, a :: L, _, h => by
  have := h a rfl
  simp [List.takeWhile_cons, List.dropWhile_cons, this]
 | i + 1, [], _, _ => by simp
 | i + 1, a :: L, h1, h2 => by
  have ha := h1 0 a (by omega) rfl
  obtain ⟨e1, e2⟩ := zAB (i := i) (L := L) (p := p) (fun k g hk hg => h1 (k + 1) g (by omega) (by simpa using hg)) (fun g hg => h2 g (by simpa using hg))
  simp [List.takeWhile_cons, List.dropWhile_cons, ha, e1, e2]
section
variable {h h' : Heap} {ow ow' : zO} {p : Nat} {qL qP : OSl} {D : DS} {L : List FA} {f : FA} {Q : AHp}
theorem sl0 {l : List Nat} (H : HasL plE h qL l) {n : Nat} (hn : n <= l.length) {K : OSl -> Prop} (hK : ∀ q', HasL plE h q' (l.take n) -> K q') : yC 1 qL 0 (some (n : Int)) none K :=
 H.slice (E := plE) (by omega) (by simp) (by simp; omega) fun q' H' => hK q' (by simpa using H')
theorem slN {l : List Nat} (H : HasL plE h qL l) {n : Nat} (hn : n <= l.length) {K : OSl -> Prop} (hK : ∀ q', HasL plE h q' (l.drop n) -> K q') : yC 1 qL (n : Int) none none K :=
 H.slice (E := plE) (by omega) (by simp; omega) (by simp) fun q' H' => hK q' (by simpa using H')
theorem kY {hX : Heap} {b : Nat} {pre post : List Nat} {q src qp : OSl} {c1 c2 c3 c4 : AV} (x : Ext h hX) (pb : h[p]? = some (.cells [.sl qL, c1, c2, c3, c4] true)) (O : OwnL plE hX q pre) (fq : ∀ t, q = some t -> h.length <= t.b) (Hs : HasL plE hX src [b]) (Hp : HasL plE h qp post) (hl : pre.length + post.length <= 1000)
  (hQ : ∀ q' h', HasL plE h' q' (pre ++ b :: post) -> (∀ t, q' = some t -> h.length <= t.b) -> zM (fun c => c = p) h h' -> h.length <= h'.length -> h'[p]? = some (.cells [.sl q', c1, c2, c3, c4] true) -> Q (.tup []) h') :
  zC 1 8 q src hX fun q85 h86 => (∃ q91 : OSl, zA h86 ⟨p, 0 + 0⟩ 1 = some [.sl q91] /\ LV.val (.sl q91) = LV.val (.sl qL)) /\ zC 1 8 q85 qp h86 fun q87 h88 =>
   vPtr (some ⟨p, 0⟩) fun p89 => zI h88 ⟨p89.b, p89.o + 0⟩ [.sl q87] fun h90 => Q (.tup []) h90 := by
 have hpl := zD pb
 have pbX := x _ _ pb
 refine zA9 (E := plE) O Hs (by omega) fun q85 h86 O86 K86 l86 f86 => ?_
 have np : ¬ (∃ s, q = some s /\ s.b = p) := fun ⟨s, a, b⟩ => by have := fq s a; omega
 have pb86 := K86 _ _ np pbX
 refine ⟨⟨qL, by rw [zZ pb86 (by simp)]; rfl, rfl⟩, ?_⟩
 have xl := x.len
 have Hp86 : HasL plE h86 qp post := K86.hasL (fun t ht ⟨s, a, b⟩ => by have := fq s a; have := HasL.live Hp t ht; omega) (Hp.mono x)
 refine Apd.append (E := plE) O86.apd Hp86 (by simp; omega) fun q87 h88 A88 K88 l88 f88 => ?_
 rw [List.append_assoc, List.singleton_append] at A88
 have f87 : ∀ t, q87 = some t -> h.length <= t.b := fun t ht => by
  rcases f88 t ht with h1 | ⟨u, hu, hb⟩
  ·omega
  ·rw [<- hb]; have := f86 u hu; omega
 have np2 : ¬ (∃ s, q85 = some s /\ s.b = p) := fun ⟨s, a, b⟩ => by have := f86 s a; omega
 have pb88 := K88 _ _ np2 pb86
 have hpl88 := zD pb88
 refine yD pb88 (by simp) ?_
 rw [show splice [AV.sl qL, c1, c2, c3, c4] 0 [.sl q87] = [AV.sl q87, c1, c2, c3, c4] from rfl]
 have K90 : zM (fun b => b = p) h88 (h88.set p (.cells [.sl q87, c1, c2, c3, c4] true)) := zT rfl
 refine hQ q87 _ (K90.hasL (fun t ht hc => by have := f87 t ht; omega) A88.hasL) f87 ?_ (by rw [List.length_set]; omega) (List.getElem?_set_self hpl88)
 intro c B hc hB
 have hcl := zD hB
 exact K90 _ _ hc (K88 _ _ (fun ⟨s, a, b⟩ => by have := f86 s a; omega) (K86 _ _ (fun ⟨s, a, b⟩ => by have := fq s a; omega) (x _ _ hB)))
def preF (s : List UInt8) (L : List FA) : List FA := L.takeWhile fun g => bytesLess g.name s
def jL (s : List UInt8) (L : List FA) : List FA := L.dropWhile fun g => bytesLess g.name s
set_option maxRecDepth 20000 in
set_option maxHeartbeats 1000000 in
theorem r200 {b : Nat} {s : List UInt8} {c1 c2 c3 c4 : AV} (pb : h[p]? = some (.cells [.sl qL, c1, c2, c3, c4] true)) (hL : HasL plE h qL (L.map (·.b))) (hll : L.length <= 256) (hn : ∀ g ∈ L, ∃ x y, h[g.b]? = some (.cells [.str g.name, x, y] true)) (hb : ∃ x y, h[b]? = some (.cells [.str s, x, y] true))
  (hQ : ∀ q' h', HasL plE h' q' ((preF s L).map (·.b) ++ b :: (jL s L).map (·.b)) -> (∀ t, q' = some t -> h.length <= t.b) -> zM (fun c => c = p) h h' -> h.length <= h'.length -> h'[p]? = some (.cells [.sl q', c1, c2, c3, c4] true) -> Q (.tup []) h') :
  AC Tryz.prog 200 [.ptr (some ⟨p, 0⟩), .ptr (some ⟨b, 0⟩)] h Q := ac200 (by
 unfold vc200 PNew
 refine ⟨fun xs h6 => ∃ i : Nat, h6 = h /\ xs = [.int .i64 (i : Nat)] /\ i <= L.length /\ ∀ k g, k < i -> L[k]? = some g -> bytesLess g.name s = true, fun xs _ => match xs with | [.int _ i] => (L.length - i).toNat | _ => 0, ⟨0, rfl, rfl, by omega, fun k g hk => by omega⟩, ?_⟩
 rintro n3 h6 ⟨i, rfl, hx, hi, hlt⟩
 simp only [List.cons.injEq, AV.int.injEq, true_and, and_true] at hx
 subst hx
 have c0 : ∀ {hX : Heap}, Ext h6 hX -> zA hX ⟨p, 0 + 0⟩ 1 = some [.sl qL] := fun x => by rw [zZ (x _ _ pb) (by simp)]; rfl
 have ck : ∀ {hX : Heap}, Ext h6 hX -> ∃ q : OSl, zA hX ⟨p, 0 + 0⟩ 1 = some [.sl q] /\ LV.val (.sl q) = LV.val (.sl qL) := fun x => ⟨qL, c0 x, rfl⟩
 have x80 : Ext h6 (h6 ++ [Blk.cells [] true]) := .app _ _
 have b80 : (h6 ++ [Blk.cells [] true])[h6.length]? = some (.cells [] true) := by simp
 have one : ∀ {hX : Heap}, HasL plE (hX ++ [Blk.cells [.ptr (some ⟨b, 0⟩)] true]) (some ⟨hX.length, 0, 1, 1, 0⟩) [b] := HasL.new (E := plE) (l := [b]) (n := 1) rfl rfl
 have hlp : (preF s L).length + (jL s L).length <= 256 := by
  have := congrArg List.length (List.takeWhile_append_dropWhile (p := fun g : FA => bytesLess g.name s) (l := L))
  rw [List.length_append] at this
  unfold preF jL; omega
 have hlp1 : ((preF s L).map (·.b)).length = (preF s L).length := List.length_map _
 have hlp2 : ((jL s L).map (·.b)).length = (jL s L).length := List.length_map _
 have hQ' := hQ
 have e1 : preF s L = L.takeWhile fun g => bytesLess g.name s := rfl
 have e2 : jL s L = L.dropWhile fun g => bytesLess g.name s := rfl
 simp only [preF, jL] at hQ' hlp hlp1 hlp2
 have hqL := hL.len
 rw [List.length_map] at hqL
 refine ⟨qL, c0 (.refl _), ?_⟩
 rw [hqL]
 refine zB (fun g => ?_) (fun g => ?_)
 ·replace g := of_decide_eq_true g
  have hil : i < L.length := by omega
  obtain ⟨y, hy⟩ : ∃ y, L[i]? = some y := ⟨_, List.getElem?_eq_getElem hil⟩
  have hyb : (L.map (·.b))[i]? = some y.b := by rw [List.getElem?_map, hy]; rfl
  obtain ⟨x1, y1, hyc⟩ := hn y (List.mem_of_getElem? hy)
  obtain ⟨x2, y2, hbc⟩ := hb
  refine ⟨qL, c0 (.refl _), ?_⟩
  refine HasL.idx (E := plE) hL (by omega) (by rw [List.length_map]; omega) fun p11 x hx hc => ⟨_, hc, ?_⟩
  rw [Int.toNat_natCast, hyb] at hx
  cases hx
  refine ⟨y.name, by rw [zZ hyc (by simp)]; rfl, ?_⟩
  refine ⟨s, by rw [zZ hbc (by simp)]; rfl, ?_⟩
  refine zB (fun g2 => ?_) (fun g2 => ?_)
  ·have hw : zE .i64 (((i : Nat) : Int) + 1) = ((i + 1 : Nat) : Int) := by rw [zF ⟨by omega, by omega⟩]; omega
   refine ⟨trivial, ⟨i + 1, rfl, by rw [hw], by omega, fun k g hk hg => ?_⟩, by rw [hw]; simp only; omega⟩
   by_cases hki : k = i
   ·subst hki; rw [hy] at hg; cases hg; exact g2
   ·exact hlt k g (by omega) hg
  ·have htd := zAB (p := fun g : FA => bytesLess g.name s) (i := i) (L := L) hlt (fun g hg => by rw [hy] at hg; cases hg; exact g2)
   refine ⟨qL, c0 (.refl _), ?_⟩
   refine sl0 (n := i) hL (by rw [List.length_map]; omega) fun q19 H19 => ?_
   refine ⟨qL, c0 (.refl _), ?_⟩
   refine slN (n := i) hL (by rw [List.length_map]; omega) fun q22 H22 => ?_
   rw [<- List.map_take, <- htd.1] at H19
   rw [<- List.map_drop, <- htd.2] at H22
   refine ⟨⟨ck x80, ck x80, ?_, ?_⟩, ?_⟩
   ·refine zA6 (E := plE) b80 (H19.mono x80) (by omega) fun q81 h82 x82 O82 f82 => ?_
    have xx := x80.trans x82
    refine ⟨ck xx, ck (xx.trans (.app _ _)), ck (xx.trans (.app _ _)), ?_⟩
    refine kY (xx.trans (.app _ _)) pb (O82.ext (.app _ _)) (fun t ht => ?_) one H22 (by omega) (hQ' )
    rcases f82 t ht with h1 | h1
    ·omega
    ·have := x80.len; omega
   ·have x96 := x80.trans (.app (h6 ++ [Blk.cells [] true]) [Blk.cells [.ptr (some ⟨b, 0⟩)] true])
    refine ⟨ck x96, ck x96, ?_⟩
    refine zA6 (E := plE) (Ext.app _ _ _ _ b80) (H19.mono x96) (by omega) fun q97 h98 x98 O98 f98 => ?_
    refine ⟨ck (x96.trans x98), ?_⟩
    refine kY (x96.trans x98) pb O98 (fun t ht => ?_) (one.mono x98) H22 (by omega) (hQ' )
    rcases f98 t ht with h1 | h1
    ·omega
    ·have := x96.len; omega
   ·have x112 : Ext h6 (h6 ++ [Blk.cells [.ptr (some ⟨b, 0⟩)] true]) := .app _ _
    have x114 := x112.trans (.app (h6 ++ [Blk.cells [.ptr (some ⟨b, 0⟩)] true]) [Blk.cells [] true])
    refine ⟨ck x112, ck x112, ck x114, ck x114, ?_⟩
    refine zA6 (E := plE) (a := (h6 ++ [Blk.cells [.ptr (some ⟨b, 0⟩)] true]).length) (by simp) (H19.mono x114) (by omega) fun q115 h116 x116 O116 f116 => ?_
    refine ⟨ck (x114.trans x116), ?_⟩
    refine kY (x114.trans x116) pb O116 (fun t ht => ?_) ((one.mono (.app _ _)).mono x116) H22 (by omega) (hQ' )
    rcases f116 t ht with h1 | h1
    ·rw [h1]; simp
    ·have := x114.len; omega
 ·replace g := of_decide_eq_false g
  have : i = L.length := by omega
  have htd := zAB (p := fun g : FA => bytesLess g.name s) (i := i) (L := L) hlt (fun g hg => by rw [List.getElem?_eq_none (by omega)] at hg; cases hg)
  refine ⟨qL, c0 (.refl _), ?_⟩
  refine sl0 (n := i) hL (by rw [List.length_map]; omega) fun q19 H19 => ?_
  refine ⟨qL, c0 (.refl _), ?_⟩
  refine slN (n := i) hL (by rw [List.length_map]; omega) fun q22 H22 => ?_
  rw [<- List.map_take, <- htd.1] at H19
  rw [<- List.map_drop, <- htd.2] at H22
  refine ⟨⟨ck x80, ck x80, ?_, ?_⟩, ?_⟩
  ·refine zA6 (E := plE) b80 (H19.mono x80) (by omega) fun q81 h82 x82 O82 f82 => ?_
   have xx := x80.trans x82
   refine ⟨ck xx, ck (xx.trans (.app _ _)), ck (xx.trans (.app _ _)), ?_⟩
   refine kY (xx.trans (.app _ _)) pb (O82.ext (.app _ _)) (fun t ht => ?_) one H22 (by omega) (hQ' )
   rcases f82 t ht with h1 | h1
   ·omega
   ·have := x80.len; omega
  ·have x96 := x80.trans (.app (h6 ++ [Blk.cells [] true]) [Blk.cells [.ptr (some ⟨b, 0⟩)] true])
   refine ⟨ck x96, ck x96, ?_⟩
   refine zA6 (E := plE) (Ext.app _ _ _ _ b80) (H19.mono x96) (by omega) fun q97 h98 x98 O98 f98 => ?_
   refine ⟨ck (x96.trans x98), ?_⟩
   refine kY (x96.trans x98) pb O98 (fun t ht => ?_) (one.mono x98) H22 (by omega) (hQ' )
   rcases f98 t ht with h1 | h1
   ·omega
   ·have := x96.len; omega
  ·have x112 : Ext h6 (h6 ++ [Blk.cells [.ptr (some ⟨b, 0⟩)] true]) := .app _ _
   have x114 := x112.trans (.app (h6 ++ [Blk.cells [.ptr (some ⟨b, 0⟩)] true]) [Blk.cells [] true])
   refine ⟨ck x112, ck x112, ck x114, ck x114, ?_⟩
   refine zA6 (E := plE) (a := (h6 ++ [Blk.cells [.ptr (some ⟨b, 0⟩)] true]).length) (by simp) (H19.mono x114) (by omega) fun q115 h116 x116 O116 f116 => ?_
   refine ⟨ck (x114.trans x116), ?_⟩
   refine kY (x114.trans x116) pb O116 (fun t ht => ?_) ((one.mono (.app _ _)).mono x116) H22 (by omega) (hQ' )
   rcases f116 t ht with h1 | h1
   ·rw [h1]; simp
   ·have := x114.len; omega)
end
section
variable {h h' : Heap} {ow ow' : zO} {p : Nat} {qL qP : OSl} {D : DS} {L : List FA} {f g : FA} {Q : AHp} {s : List UInt8}
theorem zJ5 {l l' : List FA} (s : l.Perm l') : (l.map (·.now.length)).sum = (l'.map (·.now.length)).sum := (s.map _).sum_nat
theorem zBF : preF s L ++ jL s L = L := List.takeWhile_append_dropWhile
theorem zLM (hp : D.files.Perm (g :: L)) : (preF s L ++ g :: jL s L).Perm D.files := by
 refine List.perm_middle.trans ?_
 rw [zBF]
 exact hp.symm
theorem RDX.placed {q' : OSl} (C : RDX h ow p qL qP D L) (hperm : D.files.Perm (g :: L)) (H' : HasL plE h' q' ((preF s L).map (·.b) ++ g.b :: (jL s L).map (·.b))) (f' : ∀ t, q' = some t -> h.length <= t.b) (K' : zM (fun c => c = p) h h') (l' : h.length <= h'.length)
  (pb' : h'[p]? = some (.cells [.sl q', .sl qP, .int .i64 D.limit, .int .i64 D.left, .bool D.off] true)) : RDC h' ow p q' qP { D with files := preF s L ++ g :: jL s L } /\ yV ow h ow h' := by
 have hp := C.pr
 have pp := zLM (s := s) hperm
 have nn : ∀ b, ow b = none -> b ≠ p := fun b hb hc => by rw [hc, hp] at hb; cases hb
 have no : ∀ b r, ow b = some r -> r ≠ .disk -> b ≠ p := fun b r hb hr hc => by rw [hc, hp] at hb; cases hb; exact hr rfl
 refine ⟨⟨fun b hb => by have := C.live b hb; omega, hp, pb', by simpa using H', fun t ht => ?_, ?_, C.pndr, fun k hk => ?_, (pp.map _).nodup_iff.2 C.names, (pp.map _).nodup_iff.2 C.blocks, fun x hx => ?_, by rw [pp.length_eq]; exact C.many, by rw [zJ5 pp]; exact C.used, C.lim, C.lft⟩, fun b B hb hB => K' _ _ (fun hc => hb (by show ow b ≠ none /\ ow b ≠ some .map; rw [hc, hp]; simp)) hB, l', fun b hb => .inl hb, fun b h => h⟩
 ·have := f' t ht
  by_cases ho : ow t.b = none
  ·exact ho
  ·have := C.live _ ho; omega
 ·obtain ⟨ps, A, hl2, hel⟩ := C.pnd
  refine ⟨ps, A.keeps K' (fun s hs => no _ _ (C.pndr s hs) (by simp)), hl2, fun k x y h1 h2 => ?_⟩
  obtain ⟨a, b, c, d, e⟩ := hel k x y h1 h2
  exact ⟨a, b, K'.hasL (fun s hs => nn _ (e s hs)) c, d, e⟩
 ·obtain ⟨r, qn, qs, c, a1, a2, r1, r2⟩ := C.file k (pp.mem_iff.1 hk)
  exact ⟨r, qn, qs, K' _ _ (no _ _ r (by simp)) c, a1.keeps K' (fun s hs => no _ _ (r1 s hs) (by simp)) (fun b hb _ => nn b hb) (fun b hb _ => hb), a2.keeps K' (fun s hs => no _ _ (r2 s hs) (by simp)) (fun b hb _ => nn b hb) (fun b hb _ => hb), r1, r2⟩
 ·obtain ⟨k, hk, a, b⟩ := C.pfile x hx
  exact ⟨k, pp.mem_iff.2 hk, a, b⟩
theorem RDC.born (C : RDC h ow p qL qP D) (hs : D.find s = none) (hm : D.files.length < 256) :
  RDX (h ++ [.cells [.str s, .sl none, .sl none] true]) (fun b => if b = h.length then some .file else ow b) p qL qP { D with files := mkF h.length s :: D.files } D.files /\ yV ow h (fun b => if b = h.length then some .file else ow b) (h ++ [.cells [.str s, .sl none, .sl none] true]) := by
 have x : Ext h (h ++ [Blk.cells [.str s, .sl none, .sl none] true]) := .app _ _
 have C1 := C.x.grow x
 have kp : ∀ b r, ow b = some r -> (if b = h.length then some .file else ow b) = some r := fun b r hb => by
  have := C.live b (by rw [hb]; simp)
  rw [if_neg (by omega)]; exact hb
 have ot : ∀ b, ow b = none -> b < h.length -> (if b = h.length then some Role.file else ow b) = none := fun b hb hl => by rw [if_neg (by omega)]; exact hb
 have bl : ∀ k ∈ D.files, k.b < h.length := fun k hk => C.live _ (by rw [(C.file k hk).role]; simp)
 refine ⟨⟨fun b hb => ?_, kp _ _ C.pr, C1.pb, C1.lst, fun t ht => ot _ (C.lstr t ht) (HasL.live C.lst t ht), ?_, fun t ht => kp _ _ (C.pndr t ht), fun k hk => ?_, ?_, ?_, fun y hy => ?_, by simp; omega, by simpa [mkF] using C.used, C.lim, C.lft, fun k hk => List.mem_cons_of_mem _ hk, C.many⟩, ⟨fun b B hb hB => x _ _ hB, x.len, fun b hb => ?_, fun b hb => kp _ _ hb⟩⟩
 ·rw [List.length_append, List.length_singleton]
  by_cases hc : b = h.length
  ·omega
  ·rw [if_neg hc] at hb
   have := C.live b hb; omega
 ·obtain ⟨ps, A, hl2, hel⟩ := C.pnd
  refine ⟨ps, A.ext x, hl2, fun k x' y h1 h2 => ?_⟩
  obtain ⟨a, b, c, d, e⟩ := hel k x' y h1 h2
  exact ⟨a, b, c.mono x, d, fun t ht => ot _ (e t ht) (HasL.live c t ht)⟩
 ·rcases List.mem_cons.1 hk with rfl | hk
  ·exact ⟨by simp [mkF], none, none, by simp [mkF], ⟨[], .inl ⟨rfl, rfl⟩, rfl, by simp⟩, ⟨[], .inl ⟨rfl, rfl⟩, rfl, by simp⟩, by simp, by simp⟩
  ·obtain ⟨r, qn, qs, c, a1, a2, r1, r2⟩ := C.file k hk
   have K : zM (fun _ => False) h (h ++ [Blk.cells [.str s, .sl none, .sl none] true]) := zK x
   exact ⟨kp _ _ r, qn, qs, x _ _ c, a1.keeps K (fun _ _ h => h) (fun b _ _ h => h) ot, a2.keeps K (fun _ _ h => h) (fun b _ _ h => h) ot, fun t ht => kp _ _ (r1 t ht), fun t ht => kp _ _ (r2 t ht)⟩
 ·simp only [List.map_cons, List.nodup_cons]
  refine ⟨fun hm => ?_, C.names⟩
  obtain ⟨k, hk, hkn⟩ := List.mem_map.1 hm
  unfold DS.find at hs
  have := List.find?_eq_none.1 hs k hk
  simp only [mkF] at hkn
  simp [hkn] at this
 ·simp only [List.map_cons, List.nodup_cons]
  refine ⟨fun hm => ?_, C.blocks⟩
  obtain ⟨k, hk, hkb⟩ := List.mem_map.1 hm
  have := bl k hk
  simp only [mkF] at hkb
  omega
 ·obtain ⟨k, hk, a, b⟩ := C.pfile y hy
  exact ⟨k, List.mem_cons_of_mem _ hk, a, b⟩
 ·by_cases hc : b = h.length
  ·exact .inr (by omega)
  ·rw [if_neg hc] at hb; exact .inl hb
theorem RDX.name (C : RDX h ow p qL qP D L) : ∀ g ∈ D.files, ∃ x y, h[g.b]? = some (.cells [.str g.name, x, y] true) := fun g hg => by
 obtain ⟨_, qn, qs, c, _⟩ := C.file g hg
 exact ⟨_, _, c⟩
set_option maxRecDepth 20000 in
theorem r121 (C : RDC h ow p qL qP D) (hon : D.off = false) (hleft : D.left = -1) (hbad : mayN s = false -> Q (.int .i64 1) h) (hthere : ∀ f, mayN s = true -> D.find s = some f -> Q (.int .i64 5) h) (hmany : 256 <= D.files.length -> Q (.int .i64 2) h)
  (hQ : ∀ b h' ow', mayN s = true -> D.find s = none -> D.files.length < 256 -> RDR h' ow' p { D with files := preF s D.files ++ mkF b s :: jL s D.files } -> yV ow h ow' h' -> Q (.int .i64 0) h') : AC Tryz.prog 121 [.ptr (some ⟨p, 0⟩), .str s] h Q := ac121 (by
 unfold vc121 PNew
 refine r198 ⟨_, rfl, ?_⟩
 refine zB (fun g => ?_) (fun g => ?_)
 ·have g : mayN s = false := by simpa using g
  exact r199 C hon hleft ⟨_, rfl, zB (fun g => by simp at g) (fun _ => hbad g)⟩
 have hmay : mayN s = true := by simpa using g
 refine r55 C (fun hn => ⟨_, rfl, zB (fun g => by simp at g) (fun _ => ?_)⟩) (fun f hf => ⟨_, rfl, zB (fun _ => ?_) (fun g => by simp at g)⟩)
 ·refine ⟨qL, C.at (k := 0) rfl, ?_⟩
  have hl := C.lst.len
  rw [List.length_map] at hl
  rw [hl]
  refine zB (fun g2 => ?_) (fun g2 => ?_)
  ·replace g2 := of_decide_eq_true g2
   exact r199 C hon hleft ⟨_, rfl, zB (fun g => by simp at g) (fun _ => hmany (by omega))⟩
  ·replace g2 := of_decide_eq_false g2
   have hm : D.files.length < 256 := by omega
   refine r199 C hon hleft ⟨_, rfl, zB (fun _ => ?_) (fun g => by simp at g)⟩
   obtain ⟨X, S⟩ := C.born (s := s) hn hm
   refine r200 (s := s) X.pb X.lst X.len (fun g hg => X.name g (X.sub g hg)) (X.name (mkF h.length s) (by simp)) fun q' h' H' f' K' l' pb' => ⟨rfl, ?_⟩
   obtain ⟨C2, S2⟩ := X.placed (g := mkF h.length s) (.refl _) H' f' K' l' pb'
   exact hQ h.length h' _ hmay hn hm ⟨_, _, C2⟩ (S.trans S2)
 ·exact r199 C hon hleft ⟨_, rfl, zB (fun g => by simp at g) (fun _ => hthere f hmay hf)⟩)
end
end Go.Proofs.YtnglhicedhcpbaaGreatDoor
