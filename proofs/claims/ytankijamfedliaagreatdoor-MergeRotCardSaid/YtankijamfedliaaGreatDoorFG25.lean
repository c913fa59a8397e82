import Derived.Test.YtankijamfedliaaGreatDoorFG1
import Derived.Test.YtankijamfedliaaGreatDoorFG13
import Derived.Test.YtankijamfedliaaGreatDoorFG24
namespace Go.Proofs.YtankijamfedliaaGreatDoor
open Go.Ab
open Go.Seg
open Go.Dsk hiding Bs
open Go.Crc (W)
set_option linter.unusedVariables false
set_option linter.unusedSimpArgs false
theorem wrap8 {n : Nat} (h : n < 256) : IntKind.wrap .u8 (n : Int) = n := by
 have : IntKind.wrap .u8 (n : Int) = (n : Int) % 256 := by rfl
 rw [this]; omega
theorem xor8 {a b : Nat} (ha : a < 256) (hb : b < 256) : bitsXor .u8 ((a : Nat) : Int) ((b : Nat) : Int) = ((a ^^^ b : Nat) : Int) := by
 unfold bitsXor
 show IntKind.wrap .u8 (((BitVec.ofInt 8 ((a : Nat) : Int) ^^^ BitVec.ofInt 8 ((b : Nat) : Int)).toNat : Nat) : Int) = _
 have e : (BitVec.ofInt 8 ((a : Nat) : Int) ^^^ BitVec.ofInt 8 ((b : Nat) : Int)).toNat = a ^^^ b := by
  rw [BitVec.toNat_xor, BitVec.ofInt_natCast, BitVec.ofInt_natCast, BitVec.toNat_ofNat, BitVec.toNat_ofNat, Nat.mod_eq_of_lt (by omega), Nat.mod_eq_of_lt (by omega)]
 rw [e, wrap8 (Nat.xor_lt_two_pow (n := 8) (by omega) (by omega))]
theorem shl8 {r : Nat} (h : r < 8) : shlK .u8 1 (r : Int) = ((2 ^ r : Nat) : Int) := by
 match r, h with
 | 0, _ | 1, _ | 2, _ | 3, _ | 4, _ | 5, _ | 6, _ | 7, _ => rfl
theorem bit32 {turn k : Nat} (ht : turn < 2 ^ 32) (hk : k < 32) : (bitsAnd .u32 (shrK .u32 (turn : Int) (k : Int)) 1 == 1) = turn.testBit k := by
 have e : (turn : Int) = (((BitVec.ofNat 32 turn).toNat : Nat) : Int) := by rw [BitVec.toNat_ofNat, Nat.mod_eq_of_lt ht]
 rw [e, shr32 _ k (by omega), and1]
 have e2 : (BitVec.ofNat 32 turn >>> k).getLsbD 0 = turn.testBit k := by
  rw [BitVec.getLsbD_ushiftRight, BitVec.getLsbD_ofNat, Nat.add_zero]
  simp [hk]
 rw [e2]
 cases turn.testBit k <;> rfl
theorem set_same {α : Type} {l : List α} {i : Nat} {x : α} (h : l[i]? = some x) : l.set i x = l := by
 apply List.ext_getElem?
 intro j
 rw [List.getElem?_set]
 by_cases hj : i = j
 ·subst hj
  rw [if_pos rfl, if_pos (List.getElem?_eq_some_iff.1 h).1, h]
 ·rw [if_neg hj]
section
variable {h : Heap} {Q : AV → Heap → Prop}
theorem k59 {A B : List AV} {b at' turn : Nat} {s : Bs} (hb : h[b]? = some (.cells (A ++ (byteAVs s ++ B)) true)) (hs : s.length = 64) (ha : at' ≤ 480) (ht : turn < 2 ^ 32)
  (hQ : Q (.tup []) (h.set b (.cells (A ++ (byteAVs (flip s at' turn) ++ B)) true))) : AC Tryz.prog 59 [.ptr (some ⟨b, A.length⟩), .int .i64 (at' : Nat), .int .u32 (turn : Nat)] h Q := ac59 (by
 unfold vc59
 have hbl := lt_of_get hb
 have hlen : ∀ t : Bs, (byteAVs t).length = t.length := fun t => by simp [byteAVs]
 refine ⟨fun xs h7 => ∃ k : Nat, xs = [.int .i64 (k : Nat)] ∧ k ≤ 32 ∧ h7 = h.set b (.cells (A ++ (byteAVs (flipN s at' turn k) ++ B)) true), fun xs _ => match xs with | [.int _ i] => (32 - i).toNat | _ => 0, ⟨0, rfl, by omega, (set_same hb).symm⟩, ?_⟩
 rintro n4 h7 ⟨k, hx, hk, rfl⟩
 simp only [List.cons.injEq, AV.int.injEq, true_and, and_true] at hx
 subst hx
 refine vif_mk (fun g => ?_) (fun g => ?_)
 ·replace g := of_decide_eq_true g
  have hk32 : k < 32 := by omega
  rw [bit32 ht hk32, wrapK_i64 (n := (k : Int) + 1) ⟨by omega, by omega⟩]
  refine need_var.2 ⟨decide_eq_true (by omega), ?_⟩
  refine vif_mk (fun g2 => ?_) (fun g2 => ?_)
  ·have e1 : wrapK .i64 ((at' : Int) + (k : Int)) = ((at' + k : Nat) : Int) := by rw [wrapK_i64 ⟨by omega, by omega⟩]; omega
   have e2 : wrapK .i64 (Int.tdiv (wrapK .i64 ((at' : Int) + (k : Int))) 8) = (((at' + k) / 8 : Nat) : Int) := by
    rw [e1, Int.tdiv_eq_ediv_of_nonneg (by omega), wrapK_i64 ⟨by omega, by omega⟩]; omega
   have e3 : Int.tmod (wrapK .i64 ((at' : Int) + (k : Int))) 8 = (((at' + k) % 8 : Nat) : Int) := by
    rw [e1, Int.tmod_eq_emod_of_nonneg (by omega)]; omega
   rw [e2, e3]
   have hd : (at' + k) / 8 < 64 := by omega
   have lF : (flipN s at' turn k).length = 64 := by rw [flipN_len]; exact hs
   refine need_var.2 ⟨by simp; omega, ?_⟩
   have hget : (h.set b (.cells (A ++ (byteAVs (flipN s at' turn k) ++ B)) true))[b]? = some (.cells (A ++ (byteAVs (flipN s at' turn k) ++ B)) true) := List.getElem?_set_self hbl
   have hx8 : (flipN s at' turn k)[(at' + k) / 8]? = some ((flipN s at' turn k).getD ((at' + k) / 8) 0) := by
    rw [List.getD_eq_getElem?_getD, List.getElem?_eq_getElem (by omega)]; rfl
   generalize hxg : (flipN s at' turn k).getD ((at' + k) / 8) 0 = x at *
   have hc : cellsAt (h.set b (.cells (A ++ (byteAVs (flipN s at' turn k) ++ B)) true)) ⟨b, A.length + (((at' + k) / 8 : Nat) : Int).toNat * 1⟩ 1 = some [.int .u8 (x.toNat : Nat)] := by
    rw [Int.toNat_natCast, Nat.mul_one, cellsAt_mk (p := ⟨b, A.length + (at' + k) / 8⟩) hget (by simp only [List.length_append, hlen, lF]; omega)]
    rw [List.drop_length_add_append, List.drop_append_of_le_length (by rw [hlen, lF]; omega)]
    have : (byteAVs (flipN s at' turn k))[(at' + k) / 8]? = some (.int .u8 (x.toNat : Nat)) := by unfold byteAVs; rw [List.getElem?_map, hx8]; rfl
    have hl : (at' + k) / 8 < (byteAVs (flipN s at' turn k)).length := by rw [hlen, lF]; omega
    rw [List.drop_eq_getElem_cons hl]
    rw [List.getElem?_eq_getElem hl] at this
    rw [Option.some.inj this]
    rfl
   refine ⟨_, hc, need_var.2 ⟨decide_eq_true (by omega), ?_⟩⟩
   refine need_var.2 ⟨by simp; omega, ?_⟩
   rw [shl8 (Nat.mod_lt _ (by omega)), xor8 (UInt8.toNat_lt _) (by
    have : (2 : Nat) ^ ((at' + k) % 8) < 2 ^ 8 := Nat.pow_lt_pow_right (by omega) (Nat.mod_lt _ (by omega))
    omega)]
   have hfl : flipN s at' turn (k + 1) = (flipN s at' turn k).set ((at' + k) / 8) (UInt8.ofNat (x.toNat ^^^ 2 ^ ((at' + k) % 8))) := by
    show (if turn.testBit k then flip1 (flipN s at' turn k) (at' + k) else flipN s at' turn k) = _
    rw [if_pos g2]
    unfold flip1
    rw [hxg]
   have hlt : x.toNat ^^^ 2 ^ ((at' + k) % 8) < 2 ^ 8 := Nat.xor_lt_two_pow (UInt8.toNat_lt _) (Nat.pow_lt_pow_right (by omega) (Nat.mod_lt _ (by omega)))
   have hby : (UInt8.ofNat (x.toNat ^^^ 2 ^ ((at' + k) % 8))).toNat = x.toNat ^^^ 2 ^ ((at' + k) % 8) := by
    rw [UInt8.toNat_ofNat']; exact Nat.mod_eq_of_lt hlt
   show PStore _ ⟨b, A.length + (((at' + k) / 8 : Nat) : Int).toNat * 1⟩ _ _
   unfold PStore
   simp only [hget, Int.toNat_natCast, Nat.mul_one]
   refine ⟨by simp only [List.length_append, hlen, lF, List.length_cons, List.length_nil]; omega, trivial, ⟨k + 1, by simp, by omega, ?_⟩, by omega⟩
   rw [List.set_set, splice_app (by simp only [hlen, lF, List.length_cons, List.length_nil]; omega)]
   have := splice_setB (l := flipN s at' turn k) (i := (at' + k) / 8) (b := UInt8.ofNat (x.toNat ^^^ 2 ^ ((at' + k) % 8))) (by omega)
   rw [hby] at this
   rw [this, hfl]
  ·have hfl : flipN s at' turn (k + 1) = flipN s at' turn k := by
    show (if turn.testBit k then flip1 (flipN s at' turn k) (at' + k) else flipN s at' turn k) = _
    rw [if_neg (by simp [g2])]
   exact ⟨trivial, ⟨k + 1, by simp, by omega, by rw [hfl]⟩, by simp only; omega⟩
 ·replace g := of_decide_eq_false g
  have : k = 32 := by omega
  subst this
  exact hQ)
theorem sec_open {q : Option SL} {l : List Bs} {i : Nat} {x : Bs} (A : AppJ secE h q l) (hx : l[i]? = some x) (h64 : x.length = 64) : ∃ a c o A' B', q = some ⟨a, 0, l.length, c, o⟩ ∧ A'.length = i * 64 ∧ h[a]? = some (.cells (A' ++ (byteAVs x ++ B')) true) ∧
  ∀ x' : Bs, x'.length = 64 → AppJ secE (h.set a (.cells (A' ++ (byteAVs x' ++ B')) true)) q (l.set i x') := by
 have hi := (List.getElem?_eq_some_iff.1 hx).1
 rcases A with ⟨rfl, rfl⟩ | ⟨a, c, o, j, rfl, ho, hb, hj, hc⟩
 ·simp at hi
 have key : ∀ y : Bs, y.length = 64 → ∀ m : List Bs, m = l.take i ++ y :: l.drop (i + 1) → secE.all m ++ j = secE.all (l.take i) ++ (byteAVs y ++ (secE.all (l.drop (i + 1)) ++ j)) := by
  rintro y hy m rfl
  rw [Enc.all_append, Enc.all_cons]
  have : secE.f y = byteAVs y := secA_bytes hy
  rw [this, List.append_assoc, List.append_assoc]
 have hl : l = l.take i ++ x :: l.drop (i + 1) := by
  have : l.drop i = x :: l.drop (i + 1) := by
   rw [List.drop_eq_getElem_cons hi]
   rw [List.getElem?_eq_getElem hi] at hx
   rw [Option.some.inj hx]
  rw [← this, List.take_append_drop]
 refine ⟨a, c, o, secE.all (l.take i), secE.all (l.drop (i + 1)) ++ j, rfl, ?_, ?_, fun x' hx' => ?_⟩
 ·rw [Enc.all_length, List.length_take, Nat.min_eq_left (by omega)]; rfl
 ·rw [hb, key x h64 l hl]
 ·have hal := lt_of_get hb
  refine .inr ⟨a, c, o, j, by rw [List.length_set], ho, ?_, by rw [List.length_set]; exact hj, by rw [List.length_set]; exact hc⟩
  rw [List.getElem?_set_self hal, key x' hx' (l.set i x') (by rw [List.set_eq_take_append_cons_drop, if_pos hi])]
def flipF (f : FA) (i at' turn : Nat) : FA := { f with now := f.now.set i (flip (f.now.getD i []) at' turn), safe := f.safe.set i (flip (f.safe.getD i []) at' turn) }
def flipD (D : DS) (f : FA) (i at' turn : Nat) : DS := { D with files := upF D.files (flipF f i at' turn) }
variable {ow : Roles} {p : Nat} {D : DS} {f : FA}
theorem sum_upF {fs : List FA} {f' : FA} (h : ∀ g ∈ fs, g.b = f'.b → g.now.length = f'.now.length) : ((upF fs f').map (·.now.length)).sum = (fs.map (·.now.length)).sum := by
 unfold upF
 rw [List.map_map]
 congr 1
 apply List.map_congr_left
 intro g hg
 simp only [Function.comp]
 split
 ·rename_i hb; exact (h g hg hb).symm
 ·rfl
theorem k24 (R : DiskR h ow p D) {s : Bs} (hf : D.find s = some f) {i at' turn : Nat} (hi : i < f.now.length) (ha : at' ≤ 480) (ht : turn < 2 ^ 32) (h1 : ∀ x ∈ f.now, x.length = 64) (h2 : ∀ x ∈ f.safe, x.length = 64)
  (hQ : ∀ h' ow', DiskR h' ow' p (flipD D f i at' turn) → DStep ow h ow' h' → Q (.int .i64 0) h') : AC Tryz.prog 24 [.ptr (some ⟨p, 0⟩), .str s, .int .i64 (i : Nat), .int .i64 (at' : Nat), .int .u32 (turn : Nat)] h Q := ac24 (by
 unfold vc24
 refine d58 R ⟨_, rfl, vif_mk (fun g => by simp at g) (fun _ => ?_)⟩
 obtain ⟨m, qp, es, cl, C⟩ := R
 obtain ⟨hfm, hfn⟩ := find_mem hf
 refine ⟨_, C.at (k := 0) rfl, C.look (fun hn => by rw [hf] at hn; cases hn) fun f' hf' _ _ => ⟨_, rfl, ?_⟩⟩
 rw [hf] at hf'; cases hf'
 refine vif_mk (fun g => by simp at g) (fun _ => vif_mk (fun g => by have := of_decide_eq_true g; omega) (fun _ => ?_))
 obtain ⟨qn, qs, c0, c1, c2, cb, An, As, rn, rs⟩ := FileR.at (C.file f hfm)
 refine ⟨qn, c1, ?_⟩
 rw [An.hasL.len]
 refine vif_mk (fun g => by have := of_decide_eq_true g; omega) (fun _ => vif_mk (fun g => by have := of_decide_eq_true g; omega) (fun _ => vif_mk (fun g => by have := of_decide_eq_true g; omega) (fun _ => ⟨qn, c1, ?_⟩)))
 have hx : f.now[i]? = some f.now[i] := List.getElem?_eq_getElem hi
 have hx64 := h1 _ (List.mem_of_getElem? hx)
 have hgd : f.now.getD i [] = f.now[i] := by rw [List.getD_eq_getElem?_getD, hx]; rfl
 generalize f.now[i] = x at hx hx64 hgd
 obtain ⟨a, c, o, A', B', rfl, hAl, hab, hset⟩ := sec_open An hx hx64
 have roa := rn _ rfl
 simp only at roa
 have hlive := C.live a (by rw [roa]; simp)
 have hfl := C.live f.b (by rw [(C.file f hfm).role]; simp)
 have haf : a ≠ f.b := fun he => by rw [he, (C.file f hfm).role] at roa; cases roa
 refine ⟨by omega, by simp only; omega, ?_⟩
 simp only [Int.toNat_natCast, Nat.zero_add, ← hAl]
 refine k59 hab hx64 ha ht ⟨rfl, ?_⟩
 have hF : (flip x at' turn).length = 64 := by rw [flipN_len]; exact hx64
 have A19 := hset (flip x at' turn) hF
 have K19 : Keeps (fun b => ow b = some (.now f.b)) h (h.set a (.cells (A' ++ (byteAVs (flip x at' turn) ++ B')) true)) := keeps_set roa
 have l19 : (h.set a (.cells (A' ++ (byteAVs (flip x at' turn) ++ B')) true)).length = h.length := List.length_set
 generalize hh19 : h.set a (.cells (A' ++ (byteAVs (flip x at' turn) ++ B')) true) = h19 at *
 have cb19 : h19[f.b]? = some (.cells [.str f.name, .sl (some ⟨a, 0, f.now.length, c, o⟩), .sl qs] true) := by
  rw [← hh19, List.getElem?_set, if_neg haf]; exact cb
 have N := C.setNow hfm cb As rs A19 K19 (by omega) (fun s hs => .inr (rn s hs)) (fun y hy hyb => by
  rw [List.length_set]
  obtain ⟨g, hg, hgb, hgl⟩ := C.pfile y hy
  have : g = f := uniq_b C.blocks hg hfm (by rw [hgb, hyb])
  rw [this] at hgl; exact hgl) (by rw [List.length_set]; exact C.safe f hfm) (by
  rw [sum_upF (fun g hg hgb => by
   have : g = f := uniq_b C.blocks hg hfm hgb
   rw [this]; simp)]
  exact C.used) rfl
 rw [set_same cb19] at N
 obtain ⟨C19, S19⟩ := N
 generalize hf2 : ({ f with now := f.now.set i (flip x at' turn) } : FA) = f2 at C19
 have f2b : f2.b = f.b := by rw [← hf2]
 have f2s : f2.safe = f.safe := by rw [← hf2]
 have f2n : f2.name = f.name := by rw [← hf2]
 have f2m : f2 ∈ upF D.files f2 := upF_in hfm f2b.symm.symm
 obtain ⟨qn2, qs2, e0, e1, e2, eb, An2, As2, rn2, rs2⟩ := FileR.at (C19.file f2 f2m)
 rw [f2b] at e0 e1 e2 eb rn2 rs2
 rw [f2s] at As2
 refine ⟨qs2, e2, ?_⟩
 rw [As2.hasL.len]
 have hfin : flipF f i at' turn = { f2 with safe := f.safe.set i (flip (f.safe.getD i []) at' turn) } := by
  rw [← hf2]; unfold flipF; rw [hgd]
 have hup : ∀ g : FA, g.b = f2.b → upF (upF D.files f2) g = upF D.files g := fun g hg => upF_upF hg
 refine vif_mk (fun g => ?_) (fun g => ?_)
 ·replace g := of_decide_eq_true g
  have his : i < f.safe.length := by omega
  have hy : f.safe[i]? = some f.safe[i] := List.getElem?_eq_getElem his
  have hy64 := h2 _ (List.mem_of_getElem? hy)
  have hyd : f.safe.getD i [] = f.safe[i] := by rw [List.getD_eq_getElem?_getD, hy]; rfl
  generalize f.safe[i] = y at hy hy64 hyd
  refine ⟨qs2, e2, ?_⟩
  obtain ⟨a2, c2', o2, A2, B2, rfl, hAl2, hab2, hset2⟩ := sec_open As2 hy hy64
  refine ⟨by omega, by simp only; omega, ?_⟩
  simp only [Int.toNat_natCast, Nat.zero_add, ← hAl2]
  refine k59 hab2 hy64 ha ht ⟨rfl, ?_⟩
  have roa2 := rs2 _ rfl
  simp only at roa2
  have haf2 : a2 ≠ f.b := fun he => by
   have hr := (C19.file f2 f2m).role
   rw [f2b] at hr
   rw [he, hr] at roa2; cases roa2
  have hF2 : (flip y at' turn).length = 64 := by rw [flipN_len]; exact hy64
  have A26 := hset2 (flip y at' turn) hF2
  have K26 : Keeps (fun b => setOw ow (some ⟨a, 0, f.now.length, c, o⟩) (.now f.b) b = some (.safe f2.b)) h19 (h19.set a2 (.cells (A2 ++ (byteAVs (flip y at' turn) ++ B2)) true)) := keeps_set (by rw [f2b]; exact roa2)
  have l26 : (h19.set a2 (.cells (A2 ++ (byteAVs (flip y at' turn) ++ B2)) true)).length = h19.length := List.length_set
  have cb26 : (h19.set a2 (.cells (A2 ++ (byteAVs (flip y at' turn) ++ B2)) true))[f.b]? = some (.cells [.str f2.name, .sl qn2, .sl (some ⟨a2, 0, f.safe.length, c2', o2⟩)] true) := by
   rw [List.getElem?_set, if_neg haf2]; exact eb
  have N2 := C19.setSafe (f := f2) f2m (by rw [f2b]; exact eb) An2 (by rw [f2b]; exact rn2) A26 K26 (by omega) (fun s hs => .inr (by rw [f2b]; exact rs2 s hs)) (by rw [List.length_set, ← f2s]; exact C19.safe f2 f2m) rfl
  rw [← f2b] at cb26
  rw [set_same cb26] at N2
  obtain ⟨C26, S26⟩ := N2
  refine hQ _ _ ⟨m, qp, es, cl, ?_⟩ (S19.trans S26)
  have he : flipD D f i at' turn = { { D with files := upF D.files f2 } with files := upF (upF D.files f2) { f2 with safe := f.safe.set i (flip y at' turn) } } := by
   unfold flipD
   rw [hfin, hyd]
   simp only
   rw [hup { f2 with safe := f.safe.set i (flip y at' turn) } rfl]
  rw [he]
  exact C26
 ·replace g := of_decide_eq_false g
  refine hQ _ _ ⟨m, qp, es, cl, ?_⟩ S19
  have he : flipD D f i at' turn = { D with files := upF D.files f2 } := by
   unfold flipD
   rw [hfin]
   have : f.safe.set i (flip (f.safe.getD i []) at' turn) = f.safe := List.set_eq_of_length_le (by omega)
   rw [this, ← f2s]
  rw [he]
  exact C19)
end
end Go.Proofs.YtankijamfedliaaGreatDoor
