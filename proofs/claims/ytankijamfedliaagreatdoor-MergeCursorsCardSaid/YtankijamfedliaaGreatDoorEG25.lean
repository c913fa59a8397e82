import Derived.Test.YtankijamfedliaaGreatDoorEG1
import Derived.Test.YtankijamfedliaaGreatDoorEG13
import Derived.Test.YtankijamfedliaaGreatDoorEG24
namespace Go.Proofs.YtankijamfedliaaGreatDoor
open Go.Ab
open Go.Dsk hiding Bs
set_option linter.unusedVariables false
set_option linter.unusedSimpArgs false
section
variable {h h' : Heap} {ow ow' : Roles} {p m : Nat} {qp : Option SL} {es : Ents} {cl : Nat} {D : DS} {f f' : FA} {Q : AV → Heap → Prop}
set_option maxRecDepth 20000 in
theorem d77 (R : DiskR h ow p D) {s : Bs} (hpl : D.pends.length ≤ 1000000) (hQ : ∀ h' ow', DiskR h' ow' p (D.sync s).2 → DStep ow h ow' h' → Q (.int .i64 (D.sync s).1) h') : AC Tryz.prog 77 [.ptr (some ⟨p, 0⟩), .str s] h Q := ac77 (by
  unfold vc77
  unfold DS.sync at hQ
  refine d105 R (fun ho => ⟨_, _, rfl, ?_⟩) (fun ho hn => ⟨_, _, rfl, ?_⟩) fun f ho hfd hf hfn => ⟨_, _, rfl, ?_⟩
  · rw [ho] at hQ; exact hQ h ow R (.refl _ _)
  · rw [ho, hn] at hQ; exact hQ h ow R (.refl _ _)
  rw [ho, hfd] at hQ
  simp only [Bool.false_eq_true, if_false] at hQ
  show AC Tryz.prog 104 _ _ _
  refine d104 R fun h8 R8 S8 => ⟨_, rfl, vif_mk (fun g => ?_) (fun g => ?_)⟩
  · have g : ¬ D.deed.1 = 0 := by simpa using g
    rw [if_neg g] at hQ
    exact hQ h8 ow R8 S8
  have g : D.deed.1 = 0 := by simpa using g
  rw [if_pos g] at hQ
  obtain ⟨m, qp, es, cl, C⟩ := R8
  have hf8 : f ∈ D.deed.2.files := by rw [deed_files]; exact hf
  have hblk : (D.files.map (·.b)).Nodup := by rw [← deed_files]; exact C.blocks
  refine ⟨qp, C.at (k := 1) rfl, ?_⟩
  have hlen := C.pnd.hasL.len
  rw [deed_pends] at hlen
  let St : Heap → Roles → Nat → Prop := fun h9 ow9 j => DiskC h9 ow9 p m qp es cl { D.deed.2 with files := upF D.files (keepAll f (D.pends.take j)) } ∧ DStep ow h8 ow9 h9
  have e0 : upF D.files (keepAll f (D.pends.take 0)) = D.deed.2.files := by rw [deed_files]; exact upF_self hblk hf
  refine ⟨fun xs h15 => ∃ (i : Nat) (ow15 : Roles), xs = [.int .i64 i] ∧ i ≤ D.pends.length ∧ St h15 ow15 i, fun xs _ => match xs with | [.int _ i] => (D.pends.length - i).toNat | _ => 0, ⟨0, ow, rfl, by omega, by
    show DiskC h8 ow p m qp es cl { D.deed.2 with files := upF D.files (keepAll f (D.pends.take 0)) }
    rw [e0]; exact C, .refl _ _⟩, ?_⟩
  rintro n12 h15 ⟨i, ow15, hx, hi, C15, S15⟩
  simp only [List.cons.injEq, AV.int.injEq, true_and, and_true] at hx
  subst hx
  obtain ⟨kb, kn, know⟩ := keepAll_b (f := f) (D.pends.take i)
  refine vif_mk (fun g1 => ?_) (fun g1 => ?_)
  · replace g1 := of_decide_eq_true g1
    have hpn : D.deed.2.pends = D.pends := deed_pends
    have A15 : AppJ pendE h15 qp D.pends := by have := C15.pnd; rwa [show ({ D.deed.2 with files := upF D.files (keepAll f (D.pends.take i)) } : DS).pends = D.pends from hpn] at this
    refine AppJ.idx (E := pendE) A15 (by omega) (by omega) fun pp x hx0 hc hpp => ⟨some ⟨x.1, 0⟩, ((x.2.1 : Nat) : Int), exC_mk (b := secB x.2.2) ⟨hc, ?_⟩⟩
    have hx' : D.pends[i]? = some x := by simpa using hx0
    have ht : D.pends.take (i + 1) = D.pends.take i ++ [x] := by rw [List.take_add_one, hx']; rfl
    obtain ⟨g2, hg2, hg2b, hg2l⟩ := C15.pfile x (by rw [show ({ D.deed.2 with files := upF D.files (keepAll f (D.pends.take i)) } : DS).pends = D.pends from hpn]; exact List.mem_of_getElem? hx')
    have fcell : ∀ g ∈ upF D.files (keepAll f (D.pends.take i)), ∃ c, h15[g.b]? = some (.cells c true) := by
      intro g hg
      obtain ⟨_, qn, qs, c, _⟩ := C15.file g hg
      exact ⟨_, c⟩
    have hfin : keepAll f (D.pends.take i) ∈ upF D.files (keepAll f (D.pends.take i)) := upF_in hf kb
    refine file_eq (by rw [← hg2b]; exact fcell g2 hg2) (by rw [← kb]; exact fcell _ hfin) ?_
    rw [wrapK_i64 ⟨by omega, by omega⟩]
    refine vif_mk (fun g3 => ?_) (fun g3 => ?_)
    · replace g3 := of_decide_eq_true g3
      have hgl : x.2.1 < (keepAll f (D.pends.take i)).now.length := by
        have := uniq_b C15.blocks hg2 hfin (by rw [hg2b, g3, kb])
        rw [← this]; exact hg2l
      rw [g3]
      rw [← kb]
      refine d113 C15 hfin hgl fun h22 ow22 C22 S22 => ⟨rfl, trivial, ⟨i + 1, ow22, by simp, by omega, ?_, S15.trans S22⟩, by simp only; omega⟩
      show DiskC h22 ow22 p m qp es cl { D.deed.2 with files := upF D.files (keepAll f (D.pends.take (i + 1))) }
      rw [ht, keepAll_snoc, if_pos g3]
      have e1 : upF (upF D.files (keepAll f (D.pends.take i))) (keepF (keepAll f (D.pends.take i)) x.2.1 x.2.2 64) = upF D.files (keepF (keepAll f (D.pends.take i)) x.2.1 x.2.2 64) := upF_upF (by rw [keepF_b.1])
      rw [← e1]
      exact C22
    · replace g3 := of_decide_eq_false g3
      refine ⟨trivial, ⟨i + 1, ow15, by simp, by omega, ?_, S15⟩, by simp only; omega⟩
      show DiskC h15 ow15 p m qp es cl { D.deed.2 with files := upF D.files (keepAll f (D.pends.take (i + 1))) }
      rw [ht, keepAll_snoc, if_neg g3]
      exact C15
  · replace g1 := of_decide_eq_false g1
    have : i = D.pends.length := by omega
    subst this
    rw [List.take_length] at C15 kb
    have hfin : keepAll f D.pends ∈ upF D.files (keepAll f D.pends) := upF_in hf kb
    rw [← kb]
    refine d109 C15 hfin (by show D.deed.2.pends.length ≤ _; rw [deed_pends]; exact hpl) fun q' h24 ow24 C24 S24 => ⟨rfl, ?_⟩
    have : (DS.forget { D.deed.2 with files := upF D.files (keepAll f D.pends) } (keepAll f D.pends).b) = { D.deed.2 with files := upF D.files (keepAll f D.pends), pends := D.pends.filter (notB f.b) } := by
      unfold DS.forget; simp only [deed_pends, kb]
    rw [this] at C24
    exact hQ _ _ ⟨_, _, _, _, C24⟩ (S8.trans (S15.trans S24)))
end
end Go.Proofs.YtankijamfedliaaGreatDoor




