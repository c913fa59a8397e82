/- A cursor that is closed is at the end; from any entry on a cursor tells: the walks. -/
import Derived.Test.YtankijamfedliaaGreatDoorCG16
import Derived.Test.YtankijamfedliaaGreatDoorCG25
import Derived.Test.YtankijamfedliaaGreatDoorCG27
namespace Go.Proofs.YtankijamfedliaaGreatDoor
open Go.Ab
open Go.Num hiding Bs snoc_ind
open Go.Ent Go.Seg Go.Cur
open Go.Page hiding Bs get
open Go.Dsk hiding Bs
open Go.Pool hiding Bs Ents set_at Fr least
set_option linter.unusedVariables false
set_option linter.unusedSimpArgs false
theorem keeps_cb {X : Nat → Prop} {cb : Nat} {h h1 h2 : Heap} (K : Keeps X h h1) (K2 : Keeps (fun b => X b ∨ b = cb) h1 h2) (hc : h.length ≤ cb) : Keeps X h h2 := fun b B hb hB => K2 _ _ (fun h => by
  rcases h with h | h
  · exact hb h
  · have := lt_of_get hB; omega) (K _ _ hb hB)
theorem gp_of {l : List Ent} (hok : ∀ e ∈ l, entOk e = true) : GP (headsG (packG l)) (packG l) :=
  ⟨(heads_len hok).symm, fun g hg => (packG_fit hok g hg).1, fun g hg => by
    obtain ⟨i, hi⟩ := List.getElem?_of_mem hg
    exact packG_ten hok hi⟩
theorem out_good {l : List Ent} {n : Nat} {C : List Pg} {s : Bs} (hd : dist C < n) : Out (fun _ => flG l) n C s (packG l) (fun _ => 0) := fun i g hg => .inl ⟨rfl, flG_get hg, .inr hd⟩
theorem file_fit {l : List Ent} (hok : ∀ e ∈ l, entOk e = true) (hl : l.length ≤ 500) : (∀ x ∈ sectors 7 l, x.length = 64) ∧ (sectors 7 l).length ≤ 16384 ∧ (headsG (packG l)).length ≤ (sectors 7 l).length ∧ (headsG (packG l)).length ≤ 500 := by
  have h1 := packG_len hok
  have h2 := idx_len hok
  have h3 := heads_len hok
  refine ⟨sectors_len64 hok (by omega), ?_, ?_, by omega⟩ <;> rw [sectors_len] <;> omega
section
variable {h h' : Heap} {Q : AV → Heap → Prop} {ow : Roles} {w dp sp p fb mb n b : Nat} {qt q : Option SL} {l : List Ent} {e : Ent}
theorem FileC.good (F : FileC h ow w dp sp p fb mb n qt q ⟨b, [115], sectors 7 l, sectors 7 l⟩ l) : CW h dp sp p fb mb [115] 7 l.length q (headsG (packG l)) (flG l) := by
  obtain ⟨a1, a2, a3, a4⟩ := file_fit F.ok F.few
  exact F.cw F.laid F.disk (lies_one a1) a2 a3 (.refl _ _) (Nat.le_refl _) _ (fun i hi => flG_page F.ok F.so hi) (fun i => flG_ten F.ok)
theorem FileC.at (F : FileC h ow w dp sp p fb mb n qt q ⟨b, [115], sectors 7 l, sectors 7 l⟩ l) (K : Keeps (pbl p fb mb) h h') {k : Nat} {x : AV} (hx : [AV.ptr (some ⟨dp, 0⟩), .ptr (some ⟨sp, 0⟩), .ptr (some ⟨p, 0⟩), .sl qt][k]? = some x) : cellsAt h' ⟨w, 0 + k⟩ 1 = some [x] := by
  have hk : k < 4 := by
    have := (List.getElem?_eq_some_iff.1 hx).1
    simpa using this
  have hc := K _ _ (fun hb => (F.op _ hb).2.2.2.2.1 rfl) F.cell
  rw [cells6 hc (by simp only [List.length_cons, List.length_nil]; omega)]
  match k, hk with
  | 0, _ | 1, _ | 2, _ | 3, _ => cases hx; rfl
/-- New over good pages. -/
theorem FileC.new {z : Nat → Prop} {C : List Pg} {P : PS} {N : Nat} (F : FileC h ow w dp sp p fb mb n qt q ⟨b, [115], sectors 7 l, sectors 7 l⟩ l) (C0 : CP z h h' p fb mb P N) (A : HP (fun _ => flG l) n C P) (hd : dist C < n) (hN : N ≤ 800000)
    (hQ : ∀ cb h2 P' N', CR (fun b => z b ∨ b = cb) h h2 sp p fb mb cb [115] n (fun _ => flG l) (packG l) (fun _ => 0) C (fromL l e) 0 0 P' N' → N' ≤ N + 500 → Keeps (pbl p fb mb) h' h2 → h'.length ≤ h2.length → h'.length ≤ cb → Q (.tup [.ptr (some ⟨cb, 0⟩), .int .i64 0]) h2) :
    AC Tryz.prog 13 [.ptr (some ⟨p, 0⟩), .ptr (some ⟨sp, 0⟩), entV e] h' Q := by
  obtain ⟨t1, t2⟩ := from_good (e := e) F.ok F.so (r := fun _ => 0) (fun _ => rfl)
  obtain ⟨_, _, _, a4⟩ := file_fit F.ok F.few
  refine c13 (r := fun _ => 0) (fl := fun _ => flG l) C0 F.good (gp_of F.ok) (out_good hd) A (by rw [packG_flat]; exact F.so) (by omega) (fun _ cb h2 P' N' S hN' K l' hc => ?_) (fun _ hE => ?_)
  · rw [t1] at S
    simp only at S
    rw [t2] at S
    exact hQ cb h2 P' N' S (by omega) K l' hc
  · rw [t1] at hE
    exact absurd rfl hE
/-- CursorCloses -/
theorem s4 (lives : ∀ {h : Heap} {Q : AV → Heap → Prop}, Laid h → Q (.bool true) h → AC Tryz.prog 10 [] h Q) {m : Int} (L : Laid h) (H : HasL entE h q l) : AC Tryz.prog 4 [.sl q, entV e, .int .i64 m] h fun v _ => v = .bool true := ac4 (by
  unfold vc4
  refine c9 H (fun _ => ⟨_, rfl, lives L ⟨_, rfl, rfl⟩⟩) (fun hl hm => ⟨_, rfl, ?_⟩)
  refine vif_mk (fun g => by cases g) (fun _ => ?_)
  refine vif_mk (fun _ => lives L ⟨_, rfl, rfl⟩) (fun g1 => vif_mk (fun _ => lives L ⟨_, rfl, rfl⟩) (fun g2 => ?_))
  replace g1 := of_decide_eq_false g1
  replace g2 := of_decide_eq_false g2
  refine c11 (n := 2) L H hl hm (by omega) fun w h20 ow dp sp p fb mb qt qh b F x20 _ => ⟨_, rfl, ?_⟩
  refine lives F.laid ⟨_, rfl, vif_mk (fun g => by simp at g) (fun _ => vif_mk (fun g => by simp at g) (fun _ => ?_))⟩
  refine ⟨_, F.at (.refl _ _) (k := 2) rfl, ⟨_, F.at (.refl _ _) (k := 1) rfl, ?_⟩⟩
  have W := F.good
  have G := gp_of F.ok
  refine F.new (C := []) F.cp hp_new (by decide) (by omega) fun cb h30 P30 N30 S30 hN30 K30 l30 hcb => ⟨_, _, rfl, vif_mk (fun g => by simp at g) (fun _ => vif_mk (fun g => by simp at g) (fun _ => ?_))⟩
  refine ⟨fun xs h36 => ∃ (i : Nat) (R : List Ent) (er : Int) (P : PS) (N : Nat), xs = [.int .i64 (i : Nat)] ∧ (i : Int) ≤ m ∧ CR (fun b => False ∨ b = cb) h20 h36 sp p fb mb cb [115] 2 (fun _ => flG (sortE l)) (packG (sortE l)) (fun _ => 0) [] R 0 er P N ∧ N ≤ 500 + i ∧ Keeps (pbl p fb mb) h20 h36,
    fun xs _ => match xs with | [.int _ i] => (m - i).toNat | _ => 0, ⟨0, _, _, P30, N30, rfl, by omega, S30, by omega, K30⟩, ?_⟩
  rintro n33 h36 ⟨i, R, er, P, N, hx, him, S, hN, K⟩
  simp only [List.cons.injEq, AV.int.injEq, true_and, and_true] at hx
  subst hx
  refine vif_mk (fun g => ?_) (fun g => ?_)
  · replace g := of_decide_eq_true g
    refine S.next W G (out_good (by decide)) (by omega) (fun hR => ⟨_, rfl, ?_⟩) (fun x R' hR h38 P' N' S' hN' K' l' => ⟨_, rfl, ?_⟩)
    · rw [wrapK_i64 ⟨by omega, by omega⟩]
      exact ⟨⟨rfl, trivial⟩, ⟨i + 1, R, er, P, N, by simp, by omega, S, by omega, K⟩, by simp only; omega⟩
    · rw [wrapK_i64 ⟨by omega, by omega⟩]
      exact ⟨⟨rfl, trivial⟩, ⟨i + 1, R', _, P', N', by simp, by omega, S', by omega, keeps_cb K K' hcb⟩, by simp only; omega⟩
  · refine S.close W (by omega) fun h41 P41 S41 K41 l41 => ⟨rfl, ?_⟩
    have K41 := keeps_cb K K41 hcb
    refine S41.close W (by omega) fun h43 P43 S43 K43 l43 => ⟨rfl, ?_⟩
    have K43 := keeps_cb K41 K43 hcb
    refine S43.peek G (fun _ => ⟨_, _, _, _, _, rfl, ?_⟩) (fun x R' hR => by cases hR)
    refine S43.rest W G (out_good (by decide)) (by simp; omega) (fun _ q53 h52 z52 P52 N52 S52 hN52 H52 _ _ K52 l52 => ⟨_, _, rfl, ?_⟩) (fun hR => absurd rfl hR)
    have K52 := keeps_cb K43 K52 hcb
    simp only [List.length_nil, Nat.add_zero] at hN52
    refine vif_mk (fun _ => ?_) (fun g => by simp at g)
    refine S52.next W G (out_good (by decide)) (by omega) (fun _ => ⟨_, rfl, ?_⟩) (fun x R' hR => by cases hR)
    refine vif_mk (fun _ => vif_mk (fun _ => ?_) (fun g => by simp at g)) (fun g => by simp at g)
    rw [H52.len]
    refine vif_mk (fun _ => ?_) (fun g => by simp at g)
    refine ⟨_, F.at K52 (k := 2) rfl, ?_⟩
    exact S52.held (fun _ => ⟨_, rfl, by simp [dist]⟩) (fun hR => absurd rfl hR))
set_option maxHeartbeats 1000000 in
/-- CursorTells -/
theorem s3 (lives : ∀ {h : Heap} {Q : AV → Heap → Prop}, Laid h → Q (.bool true) h → AC Tryz.prog 10 [] h Q) {m : Int} (L : Laid h) (H : HasL entE h q l) : AC Tryz.prog 3 [.sl q, entV e, .int .i64 m] h fun v _ => v = .bool true := ac3 (by
  unfold vc3
  refine c9 H (fun _ => ⟨_, rfl, lives L ⟨_, rfl, rfl⟩⟩) (fun hl hm => ⟨_, rfl, ?_⟩)
  refine vif_mk (fun g => by cases g) (fun _ => ?_)
  refine c11 (n := 1) L H hl hm (by omega) fun w h14 ow dp sp p fb mb qt qh b F x14 _ => ⟨_, rfl, ?_⟩
  refine lives F.laid ⟨_, rfl, vif_mk (fun g => by simp at g) (fun _ => vif_mk (fun g => by simp at g) (fun _ => ?_))⟩
  have few := F.few
  refine ⟨_, F.at (.refl _ _) (k := 3) rfl, ?_⟩
  refine c12 F.lst (by omega) fun q23 h22 N22 => ⟨_, rfl, ?_⟩
  have K22 : Keeps (pbl p fb mb) h14 h22 := keeps_of_ext N22.1
  refine ⟨_, F.at K22 (k := 2) rfl, ⟨_, F.at K22 (k := 1) rfl, ?_⟩⟩
  have W := F.good
  have G := gp_of F.ok
  have C22 := F.cp.grow N22.1
  generalize hwant : fromL (sortE l) e = want at *
  have hwl : want.length ≤ 500 := by
    rw [← hwant]
    have := (List.dropWhile_suffix (l := sortE l) fun x => decide (ltE x e)).length_le
    unfold fromL; omega
  refine F.new (e := e) (C := []) C22 hp_new (by decide) (by omega) fun cb h29 P29 N29 S29 hN29 K29 l29 hcb => ⟨_, _, rfl, vif_mk (fun g => by simp at g) (fun _ => vif_mk (fun g => by simp at g) (fun _ => ?_))⟩
  rw [hwant] at S29
  have lN := N22.1.len
  have Hq : ∀ {h9 : Heap}, Keeps (pbl p fb mb) h22 h9 → HasL entE h9 q23 want := fun K => K.hasL (fun t ht hc => by
    have a1 := N22.2.2 t ht
    have := (F.op _ hc).2.2.2.2.2.2.2; omega) N22.hasL
  -- how many are told
  obtain ⟨told, htold, hin, hout⟩ : ∃ told : Nat, told ≤ want.length ∧ (0 ≤ m ∧ m < want.length → m = (told : Nat)) ∧ (¬ (0 ≤ m ∧ m < want.length) → told = want.length) := by
    by_cases hc : 0 ≤ m ∧ m < want.length
    · exact ⟨m.toNat, by omega, fun _ => by omega, fun hn => absurd hc hn⟩
    · exact ⟨want.length, Nat.le_refl _, fun h => absurd h hc, fun _ => rfl⟩
  refine ⟨fun xs h57 => xs = [] ∧ ∃ (P : PS) (N : Nat), CR (fun b => False ∨ b = cb) h14 h57 sp p fb mb cb [115] 1 (fun _ => flG (sortE l)) (packG (sortE l)) (fun _ => 0) [] (want.drop told) 0 0 P N ∧ N ≤ 1000 ∧ Keeps (pbl p fb mb) h22 h57, ?_, ?_⟩
  · refine ⟨fun xs h36 => ∃ (i : Nat) (P : PS) (N : Nat), xs = [.int .i64 (i : Nat)] ∧ i ≤ told ∧ CR (fun b => False ∨ b = cb) h14 h36 sp p fb mb cb [115] 1 (fun _ => flG (sortE l)) (packG (sortE l)) (fun _ => 0) [] (want.drop i) 0 0 P N ∧ N ≤ 500 + i ∧ Keeps (pbl p fb mb) h22 h36,
      fun xs _ => match xs with | [.int _ i] => (want.length - i).toNat | _ => 0, ⟨0, P29, N29, rfl, by omega, S29, by omega, K29⟩, ?_⟩
    rintro n33 h36 ⟨i, P, N, hx, hi, S, hN, K⟩
    simp only [List.cons.injEq, AV.int.injEq, true_and, and_true] at hx
    subst hx
    rw [(Hq K).len]
    refine vif_mk (fun g => ?_) (fun g => ?_)
    · replace g := of_decide_eq_true g
      have hil : i < want.length := by omega
      refine vif_mk (fun g2 => ?_) (fun g2 => ?_)
      · have g2 : ¬ (i : Int) = m := by simpa using g2
        have hi2 : i + 1 ≤ told := by
          by_cases hc : 0 ≤ m ∧ m < want.length
          · have := hin hc; omega
          · have := hout hc; omega
        refine S.peek G (fun hR => ?_) (fun x R' hR => ⟨_, _, _, _, _, rfl, ?_⟩)
        · rw [List.drop_eq_nil_iff] at hR; omega
        rw [List.drop_eq_getElem_cons hil] at hR
        have hxx : want[i]? = some x := by
          rw [List.getElem?_eq_getElem hil]
          have := (List.cons.inj hR).1
          rw [this]
        have hR' : R' = want.drop (i + 1) := (List.cons.inj hR).2.symm
        refine vif_mk (fun g => by simp at g) (fun _ => ?_)
        refine idx4 (Hq K) hxx rfl fun p44 hc44 => ⟨_, _, _, _, hc44, ?_⟩
        refine vif_mk (fun g => by simp at g) (fun _ => ?_)
        refine ⟨_, F.at (K22.trans K) (k := 2) rfl, ?_⟩
        refine S.held (fun hR0 => ?_) (fun _ j => ⟨_, rfl, ?_⟩)
        · rw [List.drop_eq_nil_iff] at hR0; omega
        refine vif_mk (fun g => by simp [dist] at g) (fun _ => ?_)
        refine S.next W G (out_good (by decide)) (by omega) (fun hR0 => ?_) (fun y R2 hR2 h55 P55 N55 S55 hN55 K55 l55 => ⟨_, rfl, ?_⟩)
        · rw [List.drop_eq_nil_iff] at hR0; omega
        rw [List.drop_eq_getElem_cons hil] at hR2
        have hR2' : R2 = want.drop (i + 1) := (List.cons.inj hR2).2.symm
        subst hR2'
        rw [ite_self] at S55 ⊢
        refine vif_mk (fun g => by simp at g) (fun _ => ?_)
        rw [wrapK_i64 ⟨by omega, by omega⟩]
        exact ⟨⟨rfl, trivial⟩, ⟨i + 1, P55, N55, by simp, by omega, S55, by omega, keeps_cb K K55 hcb⟩, by simp only; omega⟩
      · have g2 : (i : Int) = m := by simpa using g2
        have : told = i := by have := hin ⟨by omega, by omega⟩; omega
        subst this
        exact ⟨⟨rfl, trivial⟩, rfl, P, N, S, by omega, K⟩
    · replace g := of_decide_eq_false g
      have : told = i := by omega
      subst this
      exact ⟨⟨rfl, trivial⟩, rfl, P, N, S, by omega, K⟩
  · rintro h57 ⟨_, P57, N57, S57, hN57, K57⟩
    have Hq57 := Hq K57
    have nd : ∀ t, q23 = some t → ¬ pbl p fb mb t.b := fun t ht hc => by
      have a1 := N22.2.2 t ht
      have := (F.op _ hc).2.2.2.2.2.2.2; omega
    have QN : ¬ (0 ≤ m ∧ m < want.length) → ∀ {h9 : Heap}, Keeps (pbl p fb mb) h22 h9 → HasL entE h9 none (want.drop told) := fun hc h9 _ => by
      rw [hout hc, List.drop_length]; rfl
    rw [Hq57.len]
    refine vif_mk (fun g => ?_) (fun g => ?_)
    · replace g := of_decide_eq_true g
      refine vif_mk (fun g2 => ?_) (fun g2 => ?_)
      · replace g2 := of_decide_eq_true g2
        have hmt := hin ⟨by omega, by omega⟩
        refine HasL.slice2 (E := entE) N22.hasL (by omega) (by simp only [Option.getD_none]; omega) (by simp) fun q58 H58 f58 => ?_
        simp only [Option.getD_none, Int.toNat_natCast, List.take_length, hmt] at H58
        have QX : ∀ {h9 : Heap}, Keeps (pbl p fb mb) h22 h9 → HasL entE h9 q58 (want.drop told) := fun K => K.hasL (fun t ht => by
          obtain ⟨s, hs, hb⟩ := f58 t ht
          rw [hb]; exact nd s hs) H58
        refine S57.rest W G (out_good (by decide)) (by rw [List.length_drop]; omega) (fun _ q61 h60 z60 P60 N60 S60 hN60 H60 _ _ K60 l60 => ⟨_, _, rfl, ?_⟩) (fun _ hE => absurd rfl hE)
        rw [ite_self] at S60
        rw [List.length_drop] at hN60
        have K60 := keeps_cb K57 K60 hcb
        refine S60.peek G (fun _ => ⟨_, _, _, _, _, rfl, ?_⟩) (fun x R' hR => by cases hR)
        refine vif_mk (fun _ => ?_) (fun g => by simp at g)
        refine k18 (a := want.drop told) (b := want.drop told) H60 (QX K60) (by rw [List.length_drop]; omega) ⟨_, rfl, vif_mk (fun _ => vif_mk (fun _ => ?_) (fun g => by simp at g)) (fun g => by simp at g)⟩
        refine S60.next W G (out_good (by decide)) (by omega) (fun _ => ⟨_, rfl, ?_⟩) (fun x R' hR => by cases hR)
        refine vif_mk (fun _ => ?_) (fun g => by simp at g)
        refine ⟨_, F.at (K22.trans K60) (k := 2) rfl, ?_⟩
        refine S60.held (fun _ => ⟨_, rfl, vif_mk (fun _ => ?_) (fun g => by simp [dist] at g)⟩) (fun hR => absurd rfl hR)
        exact S60.er ⟨_, rfl, rfl⟩
      · replace g2 := of_decide_eq_false g2
        have QX : ∀ {h9 : Heap}, Keeps (pbl p fb mb) h22 h9 → HasL entE h9 none (want.drop told) := fun K => QN (by omega) K
        refine S57.rest W G (out_good (by decide)) (by rw [List.length_drop]; omega) (fun _ q61 h60 z60 P60 N60 S60 hN60 H60 _ _ K60 l60 => ⟨_, _, rfl, ?_⟩) (fun _ hE => absurd rfl hE)
        rw [ite_self] at S60
        rw [List.length_drop] at hN60
        have K60 := keeps_cb K57 K60 hcb
        refine S60.peek G (fun _ => ⟨_, _, _, _, _, rfl, ?_⟩) (fun x R' hR => by cases hR)
        refine vif_mk (fun _ => ?_) (fun g => by simp at g)
        refine k18 (a := want.drop told) (b := want.drop told) H60 (QX K60) (by rw [List.length_drop]; omega) ⟨_, rfl, vif_mk (fun _ => vif_mk (fun _ => ?_) (fun g => by simp at g)) (fun g => by simp at g)⟩
        refine S60.next W G (out_good (by decide)) (by omega) (fun _ => ⟨_, rfl, ?_⟩) (fun x R' hR => by cases hR)
        refine vif_mk (fun _ => ?_) (fun g => by simp at g)
        refine ⟨_, F.at (K22.trans K60) (k := 2) rfl, ?_⟩
        refine S60.held (fun _ => ⟨_, rfl, vif_mk (fun _ => ?_) (fun g => by simp [dist] at g)⟩) (fun hR => absurd rfl hR)
        exact S60.er ⟨_, rfl, rfl⟩
    · replace g := of_decide_eq_false g
      have QX : ∀ {h9 : Heap}, Keeps (pbl p fb mb) h22 h9 → HasL entE h9 none (want.drop told) := fun K => QN (by omega) K
      refine S57.rest W G (out_good (by decide)) (by rw [List.length_drop]; omega) (fun _ q61 h60 z60 P60 N60 S60 hN60 H60 _ _ K60 l60 => ⟨_, _, rfl, ?_⟩) (fun _ hE => absurd rfl hE)
      rw [ite_self] at S60
      rw [List.length_drop] at hN60
      have K60 := keeps_cb K57 K60 hcb
      refine S60.peek G (fun _ => ⟨_, _, _, _, _, rfl, ?_⟩) (fun x R' hR => by cases hR)
      refine vif_mk (fun _ => ?_) (fun g => by simp at g)
      refine k18 (a := want.drop told) (b := want.drop told) H60 (QX K60) (by rw [List.length_drop]; omega) ⟨_, rfl, vif_mk (fun _ => vif_mk (fun _ => ?_) (fun g => by simp at g)) (fun g => by simp at g)⟩
      refine S60.next W G (out_good (by decide)) (by omega) (fun _ => ⟨_, rfl, ?_⟩) (fun x R' hR => by cases hR)
      refine vif_mk (fun _ => ?_) (fun g => by simp at g)
      refine ⟨_, F.at (K22.trans K60) (k := 2) rfl, ?_⟩
      refine S60.held (fun _ => ⟨_, rfl, vif_mk (fun _ => ?_) (fun g => by simp [dist] at g)⟩) (fun hR => absurd rfl hR)
      exact S60.er ⟨_, rfl, rfl⟩)
end
end Go.Proofs.YtankijamfedliaaGreatDoor

/- Where the pool has no frame left; of a page that is none any more: the walks. -/
namespace Go.Proofs.YtankijamfedliaaGreatDoor
open Go.Ab
open Go.Num hiding Bs snoc_ind
open Go.Ent Go.Seg Go.Cur
open Go.Page hiding Bs get
open Go.Dsk hiding Bs
open Go.Pool hiding Bs Ents set_at Fr least
set_option linter.unusedVariables false
set_option linter.unusedSimpArgs false
/-- All frames but a page's are held by others. -/
def rO (o : Nat) : Nat → Int := fun i => if i = o then 0 else 90
theorem tail_code : ∀ {gs : List (List Ent)} {r : Nat → Int} {j : Nat}, (tailL r gs j).2 ≠ 0 → ∃ k, (tailL r gs j).2 = r k
  | [], r, j, h => absurd rfl h
  | g :: gs, r, j, h => by
    rw [tailL] at h ⊢
    split at h
    · rename_i h0
      rw [if_pos h0]
      exact tail_code h
    · rename_i h0
      rw [if_neg h0]
      exact ⟨j, rfl⟩
theorem tail_all : ∀ {gs : List (List Ent)} {r : Nat → Int} {j : Nat}, (tailL r gs j).2 = 0 → (tailL r gs j).1 = gs.flatten
  | [], r, j, h => rfl
  | g :: gs, r, j, h => by
    rw [tailL] at h ⊢
    split at h
    · rename_i h0
      rw [if_pos h0, List.flatten_cons, tail_all h]
    · rename_i h0
      exact absurd h h0
theorem out_one {l : List Ent} {o : Nat} {s : Bs} : Out (fun _ => flG l) 1 [(s, o)] s (packG l) (rO o) := fun i g hg => by
  unfold rO
  by_cases h : i = o
  · subst h
    exact .inl ⟨if_pos rfl, flG_get hg, .inl (by simp)⟩
  · right
    rw [if_neg h]
    exact ⟨by decide, .inr ⟨rfl, flG_get hg, by simp [h], rfl⟩⟩
section
variable {h h' : Heap} {Q : AV → Heap → Prop} {ow ow' : Roles} {w dp sp p fb mb n b : Nat} {qt q : Option SL} {l : List Ent} {e : Ent} {f f' : FA}
theorem FileC.lst' (F : FileC h ow w dp sp p fb mb n qt q f l) (K : Keeps (pbl p fb mb) h h') : HasL entE h' qt l := K.hasL (fun t ht hb => (F.op _ hb).2.2.2.2.2.2.1 t ht rfl) F.lst
set_option maxHeartbeats 1000000 in
/-- CursorPinned -/
theorem s5 (lives : ∀ {h : Heap} {Q : AV → Heap → Prop}, Laid h → Q (.bool true) h → AC Tryz.prog 10 [] h Q) {m : Int} (L : Laid h) (H : HasL entE h q l) : AC Tryz.prog 5 [.sl q, entV e, .int .i64 m] h fun v _ => v = .bool true := ac5 (by
  unfold vc5
  refine c9 H (fun _ => ⟨_, rfl, lives L ⟨_, rfl, rfl⟩⟩) (fun hl hm => ⟨_, rfl, ?_⟩)
  refine vif_mk (fun g => by cases g) (fun _ => ?_)
  refine c11 (n := 1) L H hl hm (by omega) fun w h14 ow dp sp p fb mb qt qh b F x14 _ => ⟨_, rfl, ?_⟩
  refine lives F.laid ⟨_, rfl, vif_mk (fun g => by simp at g) (fun _ => vif_mk (fun g => by simp at g) (fun _ => ?_))⟩
  refine vif_mk (fun _ => rfl) (fun g1 => ?_)
  replace g1 := of_decide_eq_false g1
  obtain ⟨o, rfl⟩ := Int.eq_ofNat_of_zero_le (by omega : 0 ≤ m)
  have few := F.few
  have W := F.good
  have G := gp_of F.ok
  obtain ⟨_, _, _, a4⟩ := file_fit F.ok F.few
  refine ⟨_, F.at (.refl _ _) (k := 1) rfl, ?_⟩
  refine k21 F.at' F.hd ⟨_, rfl, vif_mk (fun _ => rfl) (fun g2 => ?_)⟩
  replace g2 := of_decide_eq_false g2
  have ho : o < (headsG (packG (sortE l))).length := by omega
  have hog : o < (packG (sortE l)).length := by rw [← heads_len F.ok]; exact ho
  refine ⟨_, F.at (.refl _ _) (k := 2) rfl, ⟨_, F.at (.refl _ _) (k := 1) rfl, ?_⟩⟩
  have hg := List.getElem?_eq_getElem hog
  generalize (packG (sortE l))[o] = g0 at hg
  obtain ⟨P1, e1, A1⟩ := (hp_new (fl := fun (_ : Bs) => flG (sortE l)) (n := 1)).hold (s := [115]) (i := o) F.cp.ok (flG_get hg) (.inr (by decide))
  rw [← flG_get hg] at e1
  refine F.cp.hold W ho (by omega) e1 fun q30 h29 C29 K29 l29 _ _ => ⟨_, _, rfl, vif_mk (fun g => by simp at g) (fun _ => ?_)⟩
  refine ⟨_, F.at K29 (k := 2) rfl, ⟨_, F.at K29 (k := 1) rfl, ?_⟩⟩
  refine c13 (e := e) (r := rO o) (fl := fun _ => flG (sortE l)) C29 W G out_one A1 (by rw [packG_flat]; exact F.so) (by omega) (fun hE cb h37 P37 N37 S37 hN37 K37 l37 hcb => ⟨_, _, rfl, ?_⟩) (fun hR hE h37 z37 P37 N37 C37 A37 _ _ K37 l37 => ⟨_, _, rfl, ?_⟩)
  rotate_left
  · obtain ⟨k, hk⟩ := tail_code hE
    have h90 : (tailL (rO o) ((packG (sortE l)).drop (findS (headsG (packG (sortE l))) e)) (findS (headsG (packG (sortE l))) e)).2 = 90 := by
      rw [hk] at hE ⊢
      unfold rO at hE ⊢
      split
      · rename_i hko; rw [if_pos hko] at hE; exact absurd rfl hE
      · rfl
    rw [h90]
    refine vif_mk (fun _ => vif_mk (fun _ => vif_mk (fun _ => ?_) (fun g => by simp at g)) (fun g => by simp at g)) (fun g => by simp at g)
    refine ⟨_, F.at (K29.trans K37) (k := 2) rfl, ?_⟩
    refine C37.heldN ⟨_, rfl, ?_⟩
    rw [A37.cnt]; rfl
  · refine vif_mk (fun g => by simp at g) (fun _ => ?_)
    have hfl := from_good (e := e) F.ok F.so (r := fun _ => 0) (fun _ => rfl)
    generalize hT : tailL (rO o) ((packG (sortE l)).drop (findS (headsG (packG (sortE l))) e)) (findS (headsG (packG (sortE l))) e) = T at *
    have hall : T.2 = 0 → fromL T.1 e = fromL (sortE l) e := fun h0 => by
      rw [← hT] at h0 ⊢
      rw [tail_all h0]; exact hfl.2
    have hRl : (fromL T.1 e).length ≤ 500 := by
      have h1 := (List.dropWhile_suffix (l := T.1) fun x => decide (ltE x e)).length_le
      have h2 : T.1.length ≤ (sortE l).length := by
        rw [← hT]
        have hsub : ∀ {gs : List (List Ent)} {r : Nat → Int} {j : Nat}, (tailL r gs j).1.length ≤ gs.flatten.length := by
          intro gs
          induction gs with
          | nil => intro r j; simp [tailL]
          | cons g gs ih =>
            intro r j
            rw [tailL]
            split
            · simp only [List.length_append, List.flatten_cons]
              have := ih (r := r) (j := j + 1); omega
            · simp
        refine Nat.le_trans hsub ?_
        have h3 : ((packG (sortE l)).drop (findS (headsG (packG (sortE l))) e)).flatten.length ≤ ((packG (sortE l)).take (findS (headsG (packG (sortE l))) e)).flatten.length + ((packG (sortE l)).drop (findS (headsG (packG (sortE l))) e)).flatten.length := by omega
        rw [← List.length_append, ← List.flatten_append, List.take_append_drop, packG_flat] at h3
        exact h3
      unfold fromL; omega
    have K37' := K29.trans K37
    refine S37.rest W G out_one (by omega) (fun hRE q47 h46 z46 P46 N46 S46 hN46 H46 f46 _ K46 l46 => ⟨_, _, rfl, ?_⟩) (fun hR hE h46 z46 P46 N46 S46 hN46 _ K46 l46 => ⟨_, _, rfl, ?_⟩)
    · have K46' := keeps_cb K37' K46 (by omega)
      refine ⟨_, F.at K46' (k := 3) rfl, ?_⟩
      have hT0 : T.2 = 0 := by
        rcases hRE with h1 | h1
        · rcases hE with h2 | h2
          · exact absurd h1 h2
          · exact h2
        · exact h1
      refine c12 (e := e) (F.lst' K46') (by omega) fun q53 h52 N52 => ⟨_, rfl, vif_mk (fun _ => ?_) (fun g => by simp at g)⟩
      refine k18 (H46.mono N52.1) N52.hasL (by omega) ⟨_, rfl, ?_⟩
      rw [hall hT0]
      refine vif_mk (fun _ => ?_) (fun g => by simp at g)
      refine (S46.grow N52.1).er ⟨_, rfl, ?_⟩
      simp
    · have K46' := keeps_cb K37' K46 (by omega)
      have hT90 : T.2 = 90 := by
        rw [← hT] at hE ⊢
        obtain ⟨k, hk⟩ := tail_code hE
        rw [hk] at hE ⊢
        unfold rO at hE ⊢
        split
        · rename_i hko; rw [if_pos hko] at hE; exact absurd rfl hE
        · rfl
      rw [hT90] at S46 ⊢
      refine ⟨_, F.at K46' (k := 3) rfl, ?_⟩
      refine c12 (e := e) (F.lst' K46') (by omega) fun q53 h52 N52 => ⟨_, rfl, vif_mk (fun g => by simp at g) (fun _ => ?_)⟩
      have S52 := S46.grow N52.1
      have K52 := K46'.trans (keeps_of_ext N52.1)
      refine S52.peek G (fun _ => ⟨_, _, _, _, _, rfl, ?_⟩) (fun x R' hR => by cases hR)
      refine vif_mk (fun _ => vif_mk (fun _ => vif_mk (fun _ => ?_) (fun g => by simp at g)) (fun g => by simp [slLen] at g)) (fun g => by simp at g)
      refine S52.er ⟨_, rfl, vif_mk (fun _ => ?_) (fun g => by simp at g)⟩
      refine ⟨_, F.at K52 (k := 2) rfl, ?_⟩
      have A52 := S52.over
      obtain ⟨P9, e9, A9⟩ := A52.free S52.cp.ok
      refine S52.cp.free (by omega) e9 fun h73 C73 K73 l73 => ⟨_, rfl, vif_mk (fun _ => ?_) (fun g => by simp at g)⟩
      refine ⟨_, F.at (K52.trans K73) (k := 2) rfl, ?_⟩
      refine C73.heldN ⟨_, rfl, ?_⟩
      rw [A9.cnt0]; rfl)
end
end Go.Proofs.YtankijamfedliaaGreatDoor
