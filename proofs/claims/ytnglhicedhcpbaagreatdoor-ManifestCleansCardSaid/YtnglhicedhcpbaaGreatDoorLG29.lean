import Derived.Test.YtnglhicedhcpbaaGreatDoorLG20
import Derived.Test.YtnglhicedhcpbaaGreatDoorLG28
namespace Go.Proofs.YtnglhicedhcpbaaGreatDoor
open Go.Ab
open Go.Num hiding Bs
set_option linter.unusedVariables false
set_option linter.unusedSimpArgs false
section
variable {h : Heap} {Q : AHp}
theorem t282 {s : Bs} (hs : s.length <= 100000) (hQ : ∀ q h', New byE h h' q (numB s.length ++ s) -> Q (.sl q) h') : AC Tryz.prog 282 [.str s] h Q := ac282 (by
 unfold vc282
 refine t141 (by simp only [M63]; omega) fun q4 h3 N => ⟨q4, rfl, ?_⟩
 have hl := zY (n := s.length) (by simp only [M63]; omega)
 rw [<- jD]
 exact New.append0 (E := byE) N (by omega) fun q' h2 N2 => hQ _ _ N2)
set_option maxRecDepth 20000 in
theorem t256 {e : EV} {d : ED} (hR : EdR h e d) (hc : chk d = true) (hQ : ∀ q h', New byE h h' q (encD d) -> Q (.sl q) h') : AC Tryz.prog 256 [evV e] h Q := ac256 (by
 obtain ⟨r1, r2, r3, hL⟩ := hR
 have hlen := hL.len
 obtain ⟨⟨c1, c1'⟩, ⟨c2, c2'⟩, ⟨c3, c3'⟩, c4, c5⟩ := xE hc
 have len63 : d.2.2.2.length < M63 := by simp only [M63]; omega
 unfold vc256
 rw [r1, r2, r3, hlen, c1, c2, c3]
 have b1 := zY c1'
 have b2 := zY c2'
 have b3 := zY c3'
 have b4 := zY len63
 refine t141 c1' fun q7 h6 N1 => ⟨q7, rfl, rfl, ?_⟩
 refine t263 c2' c3' fun q10 h9 N2 => ⟨q10, rfl, ?_⟩
 refine New.append (E := byE) (N1.ext N2.1) N2.hasL (by simp only [List.length_append]; omega) fun q11 h12 N3 => ?_
 refine t141 len63 fun q15 h14 N4 => ⟨q15, rfl, ?_⟩
 refine New.append (E := byE) (N3.ext N4.1) N4.hasL (by simp only [List.length_append]; omega) fun q16 h17 N5 => ?_
 generalize hhd : numB d.1.toNat ++ (numB d.2.1.toNat ++ numB d.2.2.1.toNat) ++ numB d.2.2.2.length = hd at N5
 have hhd' : hd = numB d.1.toNat ++ numB d.2.1.toNat ++ numB d.2.2.1.toNat ++ numB d.2.2.2.length := by rw [<- hhd]; simp
 have hhl : hd.length <= 36 := by rw [hhd']; simp only [List.length_append]; omega
 refine ⟨fun xs h6 => ∃ (q2 : OSl) (i : Nat), xs = [.sl q2, .int .i64 i] /\ i <= d.2.2.2.length /\ New byE h h6 q2 (hd ++ jO (d.2.2.2.take i)), fun xs _ => match xs with | [_, .int _ i] => (d.2.2.2.length - i).toNat | _ => 0, ⟨_, 0, rfl, by omega, by simpa [jO] using N5⟩, ?_⟩
 rintro q2 i h22 ⟨q2', i', hx, hi, N⟩
 simp only [List.cons.injEq, AV.int.injEq, AV.sl.injEq, true_and, and_true] at hx
 obtain ⟨rfl, rfl⟩ := hx
 refine zB (fun g => ?_) (fun g => ?_)
 ·replace g := of_decide_eq_true g
  have atR : ∀ {h' : Heap} {K : PA -> Prop}, Ext h h' -> (∀ pp y, d.2.2.2[i']? = some y -> zA h' pp 3 = some (refE.f y) -> K pp) -> vIdx e.2.2.2 (i' : Int) 3 K := by
   intro h' K hx hK
   refine HasL.idx (E := refE) (hL.mono hx) (by omega) (by omega) fun pp y hy hcy => hK pp y (by simpa using hy) hcy
  refine atR N.1 fun pp y hy' hcy => ⟨y.1, by have := zW (k := 0) (m := 1) hcy (by omega); simpa [refE] using this, ?_⟩
  have hok : kM y = true := by rw [List.all_eq_true] at c5; exact c5 y (List.mem_of_getElem? hy')
  obtain ⟨y1, ⟨y2, y2'⟩, ⟨y3, y3'⟩⟩ := zGH hok
  have bl := zPB c4 c5 i'
  have d1 := zY (n := y.1.length) (by simp only [M63]; omega)
  have d2 := zY y2'
  have d3 := zY y3'
  refine t282 (s := y.1) (by omega) fun q27 h26 M1 => ⟨q27, rfl, ?_⟩
  refine New.append (E := byE) (N.ext M1.1) M1.hasL (by simp only [List.length_append]; omega) fun q28 h29 O1 => ?_
  refine atR O1.1 fun pp2 z hz hcz => ?_
  rw [hy'] at hz; cases hz
  refine ⟨y.2.1, by have := zW (k := 1) (m := 1) hcz (by omega); simpa [refE] using this, ?_⟩
  rw [y2]
  refine t141 y2' fun q34 h33 M2 => ⟨q34, rfl, ?_⟩
  refine New.append (E := byE) (O1.ext M2.1) M2.hasL (by simp only [List.length_append]; omega) fun q35 h36 O2 => ?_
  refine atR O2.1 fun pp3 z hz hcz => ?_
  rw [hy'] at hz; cases hz
  refine ⟨y.2.2, by have := zW (k := 2) (m := 1) hcz (by omega); simpa [refE] using this, ?_⟩
  rw [y3]
  refine t141 y3' fun q41 h40 M3 => ⟨q41, rfl, ?_⟩
  refine New.append (E := byE) (O2.ext M3.1) M3.hasL (by simp only [List.length_append]; omega) fun q42 h43 O3 => ?_
  rw [zF ⟨by omega, by omega⟩]
  refine ⟨⟨rfl, trivial⟩, ⟨q42, i' + 1, by simp, by omega, ?_⟩, by simp only; omega⟩
  rw [zFV hy']
  simpa [encR] using O3
 ·replace g := of_decide_eq_false g
  have : i' = d.2.2.2.length := by omega
  subst this
  refine hQ _ _ ?_
  rw [zIE, <- hhd']
  exact N)
end
end Go.Proofs.YtnglhicedhcpbaaGreatDoor
