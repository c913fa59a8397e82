/- What is held stays at hand: the walk. -/
import Derived.Test.YtnglhicedhcpbaaGreatDoorFG13
import Derived.Test.YtnglhicedhcpbaaGreatDoorFG28
import Derived.Test.YtnglhicedhcpbaaGreatDoorFG29
import Derived.Deep.Strs
namespace Go.Proofs.YtnglhicedhcpbaaGreatDoor
open Go.Ab
open Go.Num hiding Bs snoc_ind
open Go.Ent Go.Seg
open Go.Page hiding Bs get
open Go.Pool hiding Bs Ents set_at Fr least
set_option linter.unusedVariables false
set_option linter.unusedSimpArgs false
def opE : Enc (Int × Int × Int) := ⟨3, fun x => [.int .i64 x.1, .int .i64 x.2.1, .int .i64 x.2.2], fun _ => rfl, by omega, fun _ => rfl⟩
section
variable {h : Heap} {Q : AV → Heap → Prop}
set_option maxHeartbeats 2000000 in
/-- PoolKeeps -/
theorem s11 {n1 n2 : Int} {q3 : Option SL} {l : List (Int × Int × Int)} (L : Laid h) (H3 : HasL opE h q3 l) : AC Tryz.prog 11 [.int .i64 n1, .int .i64 n2, .sl q3] h fun v _ => v = .bool true := ac11 (by
  unfold vc11
  have lives : ∀ {h' : Heap}, Laid h' → AC Tryz.prog 68 [] h' fun v10 h11 => ∃ b12 : Bool, v10 = .bool b12 ∧ AV.bool b12 = .bool true := fun L' => k68 L' fun _ _ => ⟨_, rfl, rfl⟩
  refine k67 L fun a h5 ow dp qS qL fs sps ls W5 => ⟨_, rfl, ?_⟩
  refine k68 (L.ext W5.ext) fun h8 x8 => ⟨_, rfl, vif_mk (fun g => by simp at g) (fun _ => vif_mk (fun g => by simp at g) (fun _ => ?_))⟩
  have W := W5.grow x8
  have L8 := L.ext W.ext
  refine vif_mk (fun _ => lives L8) (fun g1 => vif_mk (fun _ => lives L8) (fun g2 => vif_mk (fun _ => lives L8) (fun g3 => ?_)))
  replace g1 := of_decide_eq_false g1
  replace g2 := of_decide_eq_false g2
  replace g3 := of_decide_eq_false g3
  have hs2 : sps[2]? = some (sps[2]'(by rw [W.sl]; omega)) := List.getElem?_eq_getElem _
  generalize sps[2]'(by rw [W.sl]; omega) = s2 at hs2
  refine ⟨_, W.segs, ?_⟩
  refine W.idx (by omega) (by omega) fun pp sp hsp hc => ⟨_, hc, ?_⟩
  rw [show ((2 : Int)).toNat = 2 from rfl, hs2] at hsp; cases hsp
  obtain ⟨q2, S2, _⟩ := W.seg 2 s2 hs2
  refine k22 S2.at' S2.hd.hasL ⟨_, rfl, ?_⟩
  have hp11 : (headsK 2).length = 11 := by rw [headsK_len (by omega)]; exact pages2
  rw [hp11]
  refine vif_mk (fun _ => lives L8) (fun g4 => ?_)
  replace g4 := of_decide_eq_false g4
  obtain ⟨n, rfl⟩ := Int.eq_ofNat_of_zero_le (by omega : 0 ≤ n1)
  obtain ⟨i, rfl⟩ := Int.eq_ofNat_of_zero_le (by omega : 0 ≤ n2)
  have hi : i < 11 := by omega
  obtain ⟨pe, pl⟩ := pageC hi
  refine WP.make (n := n) W L (by omega) fun h36 p fb mb T36 x36 => ⟨_, _, rfl, vif_mk (fun g => by simp at g) (fun _ => vif_mk (fun g => by simp at g) (fun _ => ?_))⟩
  have H36 : HasL opE h36 q3 l := H3.mono (W.ext.trans x36)
  have live36 : ∀ b, pbl p fb mb b → b < h36.length := fun b hb => by
    obtain ⟨_, _, _, C⟩ := T36.R
    rcases hb with rfl | rfl | rfl
    · exact lt_of_get C.pb
    · exact lt_of_get C.fbk
    · exact lt_of_get C.mbk
  have arg : ∀ t, q3 = some t → ¬ pbl p fb mb t.b := fun t ht hc => by
    have h1 := T36.new _ hc
    have h2 := HasL.live H3 t ht
    have := W.ext.len
    omega
  obtain ⟨P1, eh, K1⟩ := kp_new (s := [99]) (i := (i : Int)) (n := n) (by omega) (l := pgC i)
  have eh' : (newP n).hold (nameK 2) (i : Int) (pageR 2 (i : Int)) = (0, pgC i, P1) := by rw [pe]; exact eh
  refine ⟨_, T36.segs, ?_⟩
  refine T36.now.idx (by omega) (by omega) fun pp sp hsp hc => ⟨_, hc, ?_⟩
  rw [show ((2 : Int)).toNat = 2 from rfl, hs2] at hsp; cases hsp
  refine T36.hold2 (j := 2) (n := (i : Int)) hs2 eh' fun q45 h44 T44 K44 l44 H44 _ => ⟨_, _, rfl, ?_⟩
  have T44 := T44 (by omega)
  obtain ⟨H44, f45⟩ := H44 rfl
  obtain ⟨gl, hgl⟩ : ∃ gl, pgC i = gl := ⟨_, rfl⟩
  rw [hgl] at H44 pl pe
  have own45 : ∀ t, q45 = some t → ¬ pbl p fb mb t.b := fun t ht hc => by
    have := f45 t ht; have := live36 _ hc; omega
  refine ⟨fun xs h50 => ∃ (k : Nat) (P : PS), xs = [.int .i64 (k : Nat)] ∧ k ≤ 60 ∧ WP h h8 h50 ow dp a qS qL fs sps ls p fb mb P (0 + 1 + k) ∧ Kp [99] (i : Int) P 0 ∧ HasL entE h50 q45 gl ∧ HasL opE h50 q3 l, fun xs _ => match xs with | [.int _ k] => (60 - k).toNat | _ => 0,
    ⟨0, P1, rfl, by omega, T44, K1, H44, K44.hasL arg H36⟩, ?_⟩
  rintro n47 h50 ⟨k, P, hx, hk, T, KP, H45, HA⟩
  simp only [List.cons.injEq, AV.int.injEq, true_and, and_true] at hx
  subst hx
  have okP : P.ok := by obtain ⟨_, _, _, C⟩ := T.R; exact C.ok
  have fin : vPtr (some ⟨a, 0⟩) fun p103 => ∃ q104 : Option SL, cellsAt h50 ⟨p103.b, p103.o + 1⟩ 1 = some [.sl q104] ∧ vIdx q104 2 1 fun p105 => ∃ p106 : Option PA, cellsAt h50 p105 1 = some [.ptr p106] ∧
      AC Tryz.prog 16 [.ptr p106, .int .i64 (i : Nat)] h50 fun v107 h108 => ∃ q109 : Option SL, ∃ n110 : Int, v107 = .tup [.sl q109, .int .i64 n110] ∧
      vif ((0 : Int) == 0) (vif (n110 == 0) (AC Tryz.prog 62 [.sl q45, .sl q109] h108 fun v111 h112 => ∃ b113 : Bool, v111 = .bool b113 ∧
        vif b113 (AC Tryz.prog 71 [.ptr (some ⟨p, 0⟩), .str [99], .int .i64 (i : Nat)] h112 fun v114 h115 => ∃ n116 : Int, v114 = .int .i64 n116 ∧
          vif (n116 == 0) (AC Tryz.prog 75 [.ptr (some ⟨p, 0⟩)] h115 fun v117 h118 => ∃ n119 : Int, v117 = .int .i64 n119 ∧ AV.bool (n119 == 0) = .bool true) (AV.bool false = .bool true)) (AV.bool false = .bool true)) (AV.bool false = .bool true)) (AV.bool false = .bool true) := by
    refine ⟨_, T.segs, ?_⟩
    refine T.now.idx (by omega) (by omega) fun pp sp hsp hc => ⟨_, hc, ?_⟩
    rw [show ((2 : Int)).toNat = 2 from rfl, hs2] at hsp; cases hsp
    refine NW.page2 (j := 2) (n := (i : Int)) T.now T.L hs2 pe (fun he => absurd rfl he) fun _ q109 h108 x108 H108 _ => ⟨_, _, rfl, ?_⟩
    refine vif_mk (fun _ => vif_mk (fun _ => ?_) (fun g => by simp at g)) (fun g => by simp at g)
    refine k62 (H45.mono x108) H108 (by omega) ⟨_, rfl, vif_mk (fun _ => ?_) (fun g => by simp at g)⟩
    obtain ⟨P2, ef, h0⟩ := KP.free okP
    refine (T.ext x108).free2 ef fun h115 T115 _ _ => ⟨_, rfl, vif_mk (fun _ => ?_) (fun g => by simp at g)⟩
    refine T115.heldN ⟨_, rfl, ?_⟩
    rw [h0]; simp
  refine vif_mk (fun gl1 => vif_mk (fun gk => ?_) (fun _ => fin)) (fun _ => fin)
  replace gl1 := of_decide_eq_true gl1
  replace gk := of_decide_eq_true gk
  have hkl : k < l.length := by rw [HA.len] at gl1; omega
  rw [wrapK_i64 (n := (k : Int) + 1) ⟨by omega, by omega⟩]
  have chk : ∀ {h60 : Heap} {P' : PS} {N : Nat} {K : Heap → Prop}, WP h h8 h60 ow dp a qS qL fs sps ls p fb mb P' N → Kp [99] (i : Int) P' 0 → K h60 →
      AC Tryz.prog 74 [.ptr (some ⟨p, 0⟩), .str [99], .int .i64 (i : Nat)] h60 fun v71 h72 => ∃ b73 : Bool, v71 = .bool b73 ∧ vif (!b73) (AV.bool false = .bool true)
        (AC Tryz.prog 75 [.ptr (some ⟨p, 0⟩)] h72 fun v74 h75 => ∃ n76 : Int, v74 = .int .i64 n76 ∧ vif (n76 != 1) (AV.bool false = .bool true) (K h75)) := fun {h60} {P'} {N} {K} T' KP' hK => by
    have ok' : P'.ok := by obtain ⟨_, _, _, C⟩ := T'.R; exact C.ok
    refine T'.has ⟨_, rfl, ?_⟩
    rw [KP'.has ok']
    refine vif_mk (fun g => by simp at g) (fun _ => ?_)
    refine T'.heldN ⟨_, rfl, ?_⟩
    rw [KP'.held]
    exact vif_mk (fun g => by simp at g) (fun _ => hK)
  have nxt : ∀ {h60 : Heap} {P' : PS}, WP h h8 h60 ow dp a qS qL fs sps ls p fb mb P' (0 + 1 + (k + 1)) → Kp [99] (i : Int) P' 0 → Keeps (pbl p fb mb) h50 h60 →
      (True ∧ (∃ (k' : Nat) (P : PS), [AV.int .i64 ((k : Int) + 1)] = [.int .i64 (k' : Nat)] ∧ k' ≤ 60 ∧ WP h h8 h60 ow dp a qS qL fs sps ls p fb mb P (0 + 1 + k') ∧ Kp [99] (i : Int) P 0 ∧ HasL entE h60 q45 gl ∧ HasL opE h60 q3 l) ∧ ((60 : Int) - ((k : Int) + 1)).toNat < ((60 : Int) - (k : Int)).toNat) := fun T' KP' K' =>
    ⟨trivial, ⟨k + 1, _, by simp, by omega, T', KP', K'.hasL own45 H45, K'.hasL arg HA⟩, by omega⟩
  have Tn : WP h h8 h50 ow dp a qS qL fs sps ls p fb mb P (0 + 1 + (k + 1)) := { T with sm := T.sm.mono (by omega), nl := by omega }
  refine HasL.idx (E := opE) HA (by omega) (by omega) fun p51 o ho hc => ⟨_, _, _, hc, ?_⟩
  refine vif_mk (fun _ => nxt Tn KP (.refl _ _)) (fun gs1 => vif_mk (fun _ => nxt Tn KP (.refl _ _)) (fun gs2 => ?_))
  replace gs1 := of_decide_eq_false gs1
  replace gs2 := of_decide_eq_false gs2
  obtain ⟨kind, so, io⟩ := o
  simp only at gs1 gs2 ⊢
  obtain ⟨j, rfl⟩ := Int.eq_ofNat_of_zero_le (by omega : 0 ≤ so)
  have hj3 : j < 3 := by omega
  have hsj : sps[j]? = some (sps[j]'(by rw [W.sl]; omega)) := List.getElem?_eq_getElem _
  generalize sps[j]'(by rw [W.sl]; omega) = sj at hsj
  refine vif_mk (fun _ => ?_) (fun _ => vif_mk (fun _ => ?_) (fun _ => chk Tn KP (nxt Tn KP (.refl _ _))))
  · refine ⟨_, T.segs, ?_⟩
    refine T.now.idx (by omega) (by omega) fun pp sp hsp hc => ⟨_, hc, ?_⟩
    rw [Int.toNat_natCast, hsj] at hsp; cases hsp
    rcases he : P.hold (nameK j) io (pageR j io) with ⟨r1, l1, P1'⟩
    have hst := KP.step okP (s' := nameK j) (i' := io) (r := pageR j io)
    rw [he] at hst
    simp only at hst
    refine T.hold2 (j := j) (n := io) hsj he fun q61 h60 T60 K60 l60 _ _ => ⟨_, _, rfl, ?_⟩
    have T60 : WP h h8 h60 ow dp a qS qL fs sps ls p fb mb P1' (0 + 1 + (k + 1)) := T60 (by omega)
    refine vif_mk (fun gr => ?_) (fun gr => ?_)
    · have gr : r1 = 0 := by simpa using gr
      have ok1 : P1'.ok := by obtain ⟨_, _, _, C⟩ := T60.R; exact C.ok
      obtain ⟨P2, ef, KP2⟩ := hst.2 gr ok1
      refine k72 fun q65 h64 x64 hidx => ⟨_, rfl, trivial, trivial, hidx j _ hj3 fun p66 hc66 => ⟨_, hc66, ?_⟩⟩
      refine (T60.ext x64).free2 ef fun h69 T69 K69 l69 => ⟨_, rfl, vif_mk (fun g => by simp at g) (fun _ => ?_)⟩
      exact chk T69 KP2 (nxt T69 KP2 ((K60.trans (keeps_of_ext x64)).trans K69))
    · have gr : r1 ≠ 0 := by simpa using gr
      have hPP := hst.1 gr
      subst hPP
      exact ⟨trivial, trivial, chk T60 KP (nxt T60 KP K60)⟩
  · refine k72 fun q85 h84 x84 hidx => ⟨_, rfl, trivial, hidx j _ hj3 fun p86 hc86 => ⟨_, hc86, ?_⟩⟩
    refine (Tn.ext x84).drop fun h89 T89 K89 l89 => ⟨_, rfl, ?_⟩
    exact chk T89 KP.drop (nxt T89 KP.drop ((keeps_of_ext x84).trans K89)))
variable {H : Type} {enc : TypeId × Value → H} {W : World}
open Go.ChangeShapes Go.WideShapes Go.ChangeAt Go.RowKit
set_option maxRecDepth 100000 in
theorem okc121 {v : Value} {r : Reach} {base : Nat} (hv0 : Value.okWide Tryz.prog W r base 121 v) : Cell.okWide Tryz.prog W r base 121 v := by
  unfold Value.okWide at hv0
  rw [Tryz.underlying121] at hv0
  exact hv0
end
end Go.Proofs.YtnglhicedhcpbaaGreatDoor

/- Calls that came in. -/
namespace Go.Proofs.YtnglhicedhcpbaaGreatDoor
open Go.Ab
open Go.ChangeShapes Go.WideShapes Go.ChangeAt Go.RowKit
set_option linter.unusedVariables false
set_option linter.unusedSimpArgs false
section
variable {H : Type} {enc : TypeId × Value → H} {W : World}
set_option maxRecDepth 100000 in
theorem op_in (n : Nat) (cs' : List Value) (y : DataW H × List MemPlace) (h : DataW.trod enc Tryz.prog W 0 (fun _ => true) true n 133 cs' = some y) (hl : cs'.length = opE.sz) : ∃ a, ∀ μ, relL μ (opE.f a) cs' := by
  obtain ⟨y0, y1, y2, n', _, _, h0, h1, h2⟩ := Deep.trod_struct3 Tryz.underlying133 h
  match cs', hl with
  | [c0, c1, c2], _ =>
    have h0 : DataW.trod enc Tryz.prog W 0 (fun _ => true) true n' 3 [c0] = some y0 := h0
    have h1 : DataW.trod enc Tryz.prog W 0 (fun _ => true) true n' 3 [c1] = some y1 := h1
    have h2 : DataW.trod enc Tryz.prog W 0 (fun _ => true) true n' 3 [c2] = some y2 := h2
    obtain ⟨s, e0, _, _⟩ := DataW.trod_int Tryz.underlying3 h0
    obtain ⟨a, e1, _, _⟩ := DataW.trod_int Tryz.underlying3 h1
    obtain ⟨b, e2, _, _⟩ := DataW.trod_int Tryz.underlying3 h2
    simp at e0 e1 e2
    subst e0 e1 e2
    exact ⟨(s, a, b), fun μ => ⟨_, _, rfl, rfl, _, _, rfl, rfl, _, _, rfl, rfl, rfl⟩⟩
end
end Go.Proofs.YtnglhicedhcpbaaGreatDoor
