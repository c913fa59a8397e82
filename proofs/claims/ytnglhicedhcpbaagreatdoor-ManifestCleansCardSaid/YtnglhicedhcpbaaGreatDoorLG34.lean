import Derived.Test.YtnglhicedhcpbaaGreatDoorLG33
namespace Go.Proofs.YtnglhicedhcpbaaGreatDoor
open Go.Ab
open Go.Dsk hiding Bs
set_option linter.unusedVariables false
set_option linter.unusedSimpArgs false
theorem zKJ {f : FA} : ∀ {l : List FA}, (l.map (·.b)).Nodup -> f ∈ l -> l.Perm (f :: l.filter (offB f.b))
  | [], _, hf => by cases hf
  | a :: l, hn, hf => by
    simp only [List.map_cons, List.nodup_cons] at hn
    obtain ⟨h1, h2⟩ := hn
    have hne : ∀ k ∈ l, k.b ≠ a.b := fun k hk hc => h1 (hc ▸ List.mem_map_of_mem hk)
    rcases List.mem_cons.1 hf with rfl | hf
    · have e : l.filter (offB f.b) = l := List.filter_eq_self.2 fun k hk => by simp [offB, hne k hk]
      rw [List.filter_cons, if_neg (by simp [offB]), e]
    · have hab : offB f.b a = true := by
        have := hne f hf
        simp [offB]; exact fun hc => this hc.symm
      rw [List.filter_cons, if_pos hab]
      exact ((zKJ h2 hf).cons a).trans (.swap _ _ _)
section
variable {h h' : Heap} {ow ow' : zO} {p : Nat} {qL qP : OSl} {D : DS} {L : List FA} {f g : FA} {Q : AHp} {s to : List UInt8}
theorem RDX.renamed {qn qs : OSl} (C : RDX h ow p qL qP D L) (hperm : D.files.Perm (f :: L)) (hc : h[f.b]? = some (.cells [.str f.name, .sl qn, .sl qs] true)) (hto : ∀ k ∈ L, k.name ≠ to) :
    RDX (h.set f.b (.cells [.str to, .sl qn, .sl qs] true)) ow p qL qP { D with files := { f with name := to } :: L } L /\ yV ow h ow (h.set f.b (.cells [.str to, .sl qn, .sl qs] true)) := by
  have hf : f ∈ D.files := hperm.mem_iff.2 (by simp)
  have hrf := (C.file f hf).role
  have hfl := zD hc
  have K : zM (fun b => b = f.b) h (h.set f.b (.cells [.str to, .sl qn, .sl qs] true)) := zT rfl
  have hg : (h.set f.b (.cells [.str to, .sl qn, .sl qs] true))[f.b]? = some (.cells [.str to, .sl qn, .sl qs] true) := List.getElem?_set_self hfl
  have hlen : (h.set f.b (.cells [.str to, .sl qn, .sl qs] true)).length = h.length := List.length_set
  generalize h.set f.b (.cells [.str to, .sl qn, .sl qs] true) = h1 at *
  have nn : ∀ b, ow b = none -> b ≠ f.b := fun b hb hc => by rw [hc, hrf] at hb; cases hb
  have no : ∀ b r, ow b = some r -> r ≠ .file -> b ≠ f.b := fun b r hb hr hc => by rw [hc, hrf] at hb; cases hb; exact hr rfl
  have hbn := (hperm.map (·.b)).nodup_iff.1 C.blocks
  have hnn := (hperm.map (·.name)).nodup_iff.1 C.names
  simp only [List.map_cons, List.nodup_cons] at hbn hnn
  have hbl : ∀ k ∈ L, k.b ≠ f.b := fun k hk hc => hbn.1 (hc ▸ List.mem_map_of_mem hk)
  refine ⟨⟨fun b hb => by have := C.live b hb; omega, C.pr, K _ _ (no _ _ C.pr (by simp)) C.pb, K.hasL (fun t ht => nn _ (C.lstr t ht)) C.lst, C.lstr, ?_, C.pndr, fun k hk => ?_, ?_, ?_, fun x hx => ?_, ?_, ?_, C.lim, C.lft, fun k hk => List.mem_cons_of_mem _ hk, C.len⟩, fun b B hb hB => K _ _ (fun hc => hb (by have hc : b = f.b := hc; show ow b ≠ none /\ ow b ≠ some .map; rw [hc, hrf]; simp)) hB, by omega, fun b hb => .inl hb, fun b h => h⟩
  · obtain ⟨ps, A, hl2, hel⟩ := C.pnd
    refine ⟨ps, A.keeps K (fun t ht => no _ _ (C.pndr t ht) (by simp)), hl2, fun k x y h1 h2 => ?_⟩
    obtain ⟨a, b, c, d, e⟩ := hel k x y h1 h2
    exact ⟨a, b, K.hasL (fun t ht => nn _ (e t ht)) c, d, e⟩
  · rcases List.mem_cons.1 hk with rfl | hk
    · obtain ⟨r, qn', qs', c, a1, a2, r1, r2⟩ := C.file f hf
      rw [hc] at c; cases c
      exact ⟨r, qn, qs, hg, a1.keeps K (fun t ht => no _ _ (r1 t ht) (by simp)) (fun b hb _ => nn b hb) (fun b hb _ => hb), a2.keeps K (fun t ht => no _ _ (r2 t ht) (by simp)) (fun b hb _ => nn b hb) (fun b hb _ => hb), r1, r2⟩
    · obtain ⟨r, qn', qs', c, a1, a2, r1, r2⟩ := C.file k (C.sub k hk)
      exact ⟨r, qn', qs', K _ _ (hbl k hk) c, a1.keeps K (fun t ht => no _ _ (r1 t ht) (by simp)) (fun b hb _ => nn b hb) (fun b hb _ => hb), a2.keeps K (fun t ht => no _ _ (r2 t ht) (by simp)) (fun b hb _ => nn b hb) (fun b hb _ => hb), r1, r2⟩
  · simp only [List.map_cons, List.nodup_cons]
    refine ⟨fun hm => ?_, hnn.2⟩
    obtain ⟨k, hk, e⟩ := List.mem_map.1 hm
    exact hto k hk e
  · simp only [List.map_cons, List.nodup_cons]
    exact hbn
  · obtain ⟨k, hk, a, b⟩ := C.pfile x hx
    rcases List.mem_cons.1 (hperm.mem_iff.1 hk) with rfl | hk
    · exact ⟨_, List.mem_cons_self .., a, b⟩
    · exact ⟨k, List.mem_cons_of_mem _ hk, a, b⟩
  · have := hperm.length_eq
    have := C.many
    simp only [List.length_cons] at *
    omega
  · have := zJ5 hperm
    have := C.used
    simp only [List.map_cons, List.sum_cons] at *
    omega
set_option maxRecDepth 20000 in
theorem zHL (C : RDC h ow p qL qP D) (hf : f ∈ D.files) (hpl : D.pends.length <= 1000000) (hto : ∀ k ∈ D.files.filter (offB f.b), k.name ≠ to)
    (hQ : ∀ h' ow', RDR h' ow' p { D with files := preF to (D.files.filter (offB f.b)) ++ { f with name := to } :: jL to (D.files.filter (offB f.b)) } -> yV ow h ow' h' -> Q (.int .i64 0) h') :
    AC Tryz.prog 257 [.ptr (some ⟨p, 0⟩), .ptr (some ⟨f.b, 0⟩), .bool true] h fun v18 h19 => v18 = .tup [] /\
    vPtr (some ⟨f.b, 0⟩) fun p20 => zI h19 ⟨p20.b, p20.o + 0⟩ [.str to] fun h21 =>
    AC Tryz.prog 200 [.ptr (some ⟨p, 0⟩), .ptr (some ⟨f.b, 0⟩)] h21 fun v22 h23 => v22 = .tup [] /\ Q (.int .i64 0) h23 := by
  refine r257 (b3 := true) C.x hf hpl fun q q' h1 ow1 X S => ⟨rfl, ?_⟩
  have e : D.pends.filter (stay true f.b) = D.pends := List.filter_eq_self.2 fun _ _ => rfl
  rw [e] at X
  have hperm : D.files.Perm (f :: D.files.filter (offB f.b)) := zKJ C.blocks hf
  obtain ⟨_, qn, qs, c, _⟩ := X.file f hf
  obtain ⟨X2, S2⟩ := X.renamed (to := to) hperm c hto
  refine yD c (by simp) ?_
  rw [show splice [AV.str f.name, .sl qn, .sl qs] 0 [.str to] = [AV.str to, .sl qn, .sl qs] from rfl]
  refine r200 (s := to) X2.pb X2.lst X2.len (fun g hg => X2.name g (X2.sub g hg)) (X2.name { f with name := to } (by simp)) fun q3 h' H' f' K' l' pb' => ⟨rfl, ?_⟩
  obtain ⟨C4, S4⟩ := X2.placed (g := { f with name := to }) (.refl _) H' f' K' l' pb'
  exact hQ h' ow1 ⟨_, _, C4⟩ ((S.trans S2).trans S4)
def offF (o : Option FA) (fs : List FA) : List FA := match o with
  | some g => fs.filter (offB g.b)
  | none => fs
def offP (o : Option FA) (ps : List PD) : List PD := match o with
  | some g => ps.filter (notB g.b)
  | none => ps
def renD (D : DS) (f : FA) (to : List UInt8) : DS :=
  { D with files := preF to ((offF (D.find to) D.files).filter (offB f.b)) ++ { f with name := to } :: jL to ((offF (D.find to) D.files).filter (offB f.b)), pends := offP (D.find to) D.pends }
set_option maxRecDepth 20000 in
theorem r252 (C : RDC h ow p qL qP D) (hon : D.off = false) (hleft : D.left = -1) (hpl : D.pends.length <= 1000000) (hbad : mayN to = false -> Q (.int .i64 1) h) (hnone : D.find s = none -> Q (.int .i64 4) h) (hsame : ∀ f, D.find s = some f -> s = to -> Q (.int .i64 0) h)
    (hQ : ∀ f h' ow', mayN to = true -> D.find s = some f -> s ≠ to -> RDR h' ow' p (renD D f to) -> yV ow h ow' h' -> Q (.int .i64 0) h') : AC Tryz.prog 252 [.ptr (some ⟨p, 0⟩), .str s, .str to] h Q := ac252 (by
  unfold vc252
  have last : ∀ f, D.find s = some f -> mayN to = true -> s ≠ to -> AC Tryz.prog 55 [.ptr (some ⟨p, 0⟩), .str to] h fun v53 h54 => ∃ p55 : OPa, v53 = .ptr p55 /\
     vif (!(p55.isNone))
     (AC Tryz.prog 257 [.ptr (some ⟨p, 0⟩), .ptr p55, .bool false] h54 fun v56 h57 => v56 = .tup [] /\
     AC Tryz.prog 257 [.ptr (some ⟨p, 0⟩), .ptr (some ⟨f.b, 0⟩), .bool true] h57 fun v58 h59 => v58 = .tup [] /\
     vPtr (some ⟨f.b, 0⟩) fun p60 =>
     zI h59 ⟨p60.b, p60.o + 0⟩ [.str to] fun h61 =>
     AC Tryz.prog 200 [.ptr (some ⟨p, 0⟩), .ptr (some ⟨f.b, 0⟩)] h61 fun v62 h63 => v62 = .tup [] /\
     Q (.int .i64 0) h63)
     (AC Tryz.prog 257 [.ptr (some ⟨p, 0⟩), .ptr (some ⟨f.b, 0⟩), .bool true] h54 fun v64 h65 => v64 = .tup [] /\
     vPtr (some ⟨f.b, 0⟩) fun p66 =>
     zI h65 ⟨p66.b, p66.o + 0⟩ [.str to] fun h67 =>
     AC Tryz.prog 200 [.ptr (some ⟨p, 0⟩), .ptr (some ⟨f.b, 0⟩)] h67 fun v68 h69 => v68 = .tup [] /\
     Q (.int .i64 0) h69) := by
    intro f hf hmay hne
    obtain ⟨hfm, hfn⟩ := jN hf
    refine r55 C (fun hn => ⟨_, rfl, zB (fun g => by simp at g) (fun _ => ?_)⟩) (fun g hg => ⟨_, rfl, zB (fun _ => ?_) (fun g => by simp at g)⟩)
    · have e1 : offF (D.find to) D.files = D.files := by rw [hn]; rfl
      have e2 : offP (D.find to) D.pends = D.pends := by rw [hn]; rfl
      refine zHL C hfm hpl (fun k hk hc => ?_) fun h' ow' R S => hQ f h' ow' hmay hf hne (by unfold renD; rw [e1, e2]; exact R) S
      have h1 := (List.mem_filter.1 hk).1
      unfold DS.find at hn
      have := List.find?_eq_none.1 hn k h1
      simp [hc] at this
    · obtain ⟨hgm, hgn⟩ := jN hg
      have hfg : f.b ≠ g.b := fun hc => by
        have := yZ C.blocks hfm hgm hc
        subst this
        exact hne (hfn.symm.trans hgn)
      refine r257 (b3 := false) C.x hgm hpl fun q q' h1 ow1 X S => ⟨rfl, ?_⟩
      have e : stay false g.b = notB g.b := rfl
      rw [e] at X
      have C1 := X.c List.filter_sublist fun x hx => by
        obtain ⟨hx1, hx2⟩ := List.mem_filter.1 hx
        obtain ⟨k, hk, hkb, hlt⟩ := C.pfile x hx1
        refine ⟨k, List.mem_filter.2 ⟨hk, ?_⟩, hkb, hlt⟩
        have : ¬ x.1 = g.b := by simpa [notB] using hx2
        simp [offB, hkb, this]
      have e1 : offF (D.find to) D.files = D.files.filter (offB g.b) := by rw [hg]; rfl
      have e2 : offP (D.find to) D.pends = D.pends.filter (notB g.b) := by rw [hg]; rfl
      refine zHL C1 (List.mem_filter.2 ⟨hfm, by simp [offB, hfg]⟩) (Nat.le_trans (List.length_filter_le _ _) hpl) (fun k hk hc => ?_) fun h' ow' R S' => hQ f h' ow' hmay hf hne (by unfold renD; rw [e1, e2]; exact R) (S.trans S')
      have h2 := List.mem_filter.1 (List.mem_filter.1 hk).1
      have hkg : k = g := by
        have hn := C.names
        have h3 : k.name = g.name := hc.trans hgn.symm
        exact zD9 hn h2.1 hgm h3
      subst hkg
      have := h2.2
      simp [offB] at this
  refine r55 C (fun hn => ⟨_, rfl, ?_⟩) (fun f hf => ⟨_, rfl, ?_⟩)
  · refine r198 ⟨_, rfl, zB (fun g => ?_) (fun g => zB (fun _ => ?_) (fun g => by simp at g))⟩
    · exact r199 C hon hleft ⟨_, rfl, zB (fun _ => hbad (by simpa using g)) (fun g => by simp at g)⟩
    · exact r199 C hon hleft ⟨_, rfl, zB (fun _ => hnone hn) (fun g => by simp at g)⟩
  · refine r198 ⟨_, rfl, zB (fun g => ?_) (fun g => zB (fun g => by simp at g) (fun _ => ?_))⟩
    · exact r199 C hon hleft ⟨_, rfl, zB (fun _ => hbad (by simpa using g)) (fun g => by simp at g)⟩
    · refine r199 C hon hleft ⟨_, rfl, zB (fun g => by simp at g) (fun _ => zB (fun g2 => hsame f hf (by simpa using g2)) (fun g2 => ?_))⟩
      exact last f hf (by simpa using g) (by simpa using g2))
end
end Go.Proofs.YtnglhicedhcpbaaGreatDoor
