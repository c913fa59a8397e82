import Derived.Test.YtnglhicedhcpbaaGreatDoorKG23
import Derived.Test.YtnglhicedhcpbaaGreatDoorKG29
namespace Go.Man
open Go.Page Go.Dsk
open Go.Ab (splice)
set_option linter.unusedVariables false
set_option linter.unusedSimpArgs false
variable {J : Jr} {D : DS} {s s' : J.S} {es : List J.E} {e : J.E} {t : Bs} {b : Nat} {f : FA}
theorem says_mid (M : Mid J D.files D.pends s) : saysL J (match D.find nJ with | some f => f.now.map pad | none => []) = s := by
  cases hf : D.find nJ with
  | none =>
    have h1 := M.none (find_not hf)
    rw [h1]; rfl
  | some f =>
    obtain ⟨a, c⟩ := find_iff hf
    exact (M.jour f a c).2.2
structure MidI (J : Jr) (D0 D : DS) (s : J.S) : Prop where
  ok : DOk D
  mid : Mid J D.files D.pends s
  off : D.off = false
  pn : D.pends = []
  lim : D.limit = D0.limit
  lft : D0.left = -1 → D.left = -1
  use : D.used ≤ D0.used
theorem cleanL_mid {keep : Bs → Bool} (hk : keep nJ = true) : ∀ {l : List Bs} {D0 D : DS} {n : Int}, MidI J D0 D s → l.Nodup → (∀ t ∈ l, (D.find t).isSome) →
    ((cleanL keep D l n).2.1 = 0 ∧ MidI J D0 (cleanL keep D l n).2.2 s) ∨ ((cleanL keep D l n).2.1 ≠ 0 ∧ GoneI J D0 (cleanL keep D l n).2.2 s)
  | [], D0, D, n, I, _, _ => .inl ⟨rfl, I⟩
  | t :: l, D0, D, n, I, hn, hf => by
    rw [List.nodup_cons] at hn
    rw [cleanL]
    by_cases hkt : keep t = true
    · rw [if_pos hkt]
      exact cleanL_mid hk I hn.2 fun u hu => hf u (by simp [hu])
    · rw [if_neg hkt]
      rcases del_mid (t := t) I.ok I.mid I.off I.pn (fun h => hkt (by rw [h]; exact hk)) (hf t (by simp)) with ⟨a1, a2, a3, a4, a5, a6, a7, a8, a9, a10⟩ | ⟨a1, G⟩
      · rw [if_pos a1]
        refine cleanL_mid hk ⟨a2, a3, a4, a5, a6.trans I.lim, fun h => a7 (I.lft h), Nat.le_trans a8 I.use⟩ hn.2 fun u hu => ?_
        obtain ⟨g, hg⟩ := Option.isSome_iff_exists.1 (hf u (by simp [hu]))
        obtain ⟨g1, g2⟩ := find_iff hg
        have hut : u ≠ t := fun h => hn.1 (by rw [← h]; exact hu)
        unfold DS.find
        rw [List.find?_isSome]
        refine ⟨g, ?_, by simp [g2]⟩
        rw [a10]
        refine List.mem_filter.2 ⟨g1, ?_⟩
        rw [g2, beq_false_of_ne hut]; rfl
      · rw [if_neg a1]
        exact .inr ⟨a1, G.mid, fun h => G.lft (I.lft h)⟩
theorem clean_mid (names : List Bs) (O : DOk D) (M : Mid J D.files D.pends s) (ho : D.off = false) (hp : D.pends = []) : ((cleanP D names).2.1 = 0 ∧ MidI J D (cleanP D names).2.2 s) ∨ ((cleanP D names).2.1 ≠ 0 ∧ GoneI J D (cleanP D names).2.2 s) := by
  refine cleanL_mid (by unfold keepF'; simp) ⟨O, M, ho, hp, rfl, id, Nat.le_refl _⟩ docNames_nodup fun t ht => ?_
  unfold DS.namesL at ht
  rw [docNames_mem] at ht
  obtain ⟨f, hf, hn⟩ := List.mem_map.1 ht
  unfold DS.find
  rw [List.find?_isSome]
  exact ⟨f, hf, by simp [hn]⟩
theorem open_mid (names : List Bs) (O : DOk D) (M : Mid J D.files D.pends s) (ho : D.off = false) (hp : D.pends = []) (hs : fold J.emp es = some s) (hsz : szs J es ≤ 2000) (hu : D.used + szs J es ≤ D.limit)
    (hb : (cleanP D names).2.1 = 0 → (clearP (cleanP D names).2.2).1 = 0 → ((clearP (cleanP D names).2.2).2.create nN b).1 = 0 → ∀ y ∈ (clearP (cleanP D names).2.2).2.files, y.b ≠ b) :
    ((cleanP D names).2.1 = 0 ∧ (layP J (cleanP D names).2.2 b 0 es).1 = 0 ∧ Idle J (layP J (cleanP D names).2.2 b 0 es).2.1 es ∧ (layP J (cleanP D names).2.2 b 0 es).2.2 = szs J es ∧ (layP J (cleanP D names).2.2 b 0 es).2.1.off = false ∧ (layP J (cleanP D names).2.2 b 0 es).2.1.limit = D.limit ∧ (D.left = -1 → (layP J (cleanP D names).2.2 b 0 es).2.1.left = -1)) ∨
    ((cleanP D names).2.1 = 0 ∧ (layP J (cleanP D names).2.2 b 0 es).1 ≠ 0 ∧ GoneI J D (layP J (cleanP D names).2.2 b 0 es).2.1 s) ∨ ((cleanP D names).2.1 ≠ 0 ∧ GoneI J D (cleanP D names).2.2 s) := by
  rcases clean_mid names O M ho hp with ⟨h1, I⟩ | ⟨h1, G⟩
  · rcases lay_mid (b := b) I.ok I.mid I.off I.pn hs hsz (by have := I.use; have := I.lim; omega) 0 (hb h1) with ⟨a1, a2, a3, a4, a5, a6⟩ | ⟨a1, G⟩
    · exact .inl ⟨h1, a1, a2, a3, a4, a5.trans I.lim, fun h => a6 (I.lft h)⟩
    · exact .inr (.inl ⟨h1, a1, G.mid, fun h => G.lft (I.lft h)⟩)
  · exact .inr (.inr ⟨h1, G⟩)
structure ComI (J : Jr) (D0 D : DS) (es : List J.E) (e : J.E) (m : Nat) : Prop where
  ok : DOk D
  mid : Mid2 J D.files D.pends es e m
  off : D.off = false
  lim : D.limit = D0.limit
  lft : D0.left = -1 → D.left = -1
structure Gone2 (J : Jr) (D0 D : DS) (es : List J.E) (e : J.E) : Prop where
  mid : ∃ m, Mid2 J D.files D.pends es e m
  ok : DOk D
  lft : D0.left ≠ -1
theorem addP_com : ∀ {ps : List Bs} {m : Nat} {D0 D : DS}, ComI J D0 D es e m → (row (1 + szs J es) (J.enc e)).drop m = ps → szs J es + sz J e ≤ D0.limit →
    ((addP D nJ ps).1 = 0 ∧ (addP D nJ ps).2.2 = ps.length ∧ ComI J D0 (addP D nJ ps).2.1 es e (m + ps.length)) ∨ ((addP D nJ ps).1 ≠ 0 ∧ Gone2 J D0 (addP D nJ ps).2.1 es e)
  | [], m, D0, D, C, _, _ => .inl ⟨rfl, rfl, C⟩
  | p :: ps, m, D0, D, C, hd, hu => by
    have hp : (row (1 + szs J es) (J.enc e))[m]? = some p := by
      have := congrArg (fun l => l[0]?) hd
      simpa using this
    have hd2 : (row (1 + szs J es) (J.enc e)).drop (m + 1) = ps := by
      rw [← List.drop_drop, hd]; rfl
    have hlen : (row (1 + szs J es) (J.enc e)).length = sz J e := sz_row
    have hm := (List.getElem?_eq_some_iff.1 hp).1
    obtain ⟨f, h1, h2, h3⟩ := C.mid.find
    have hused : D.used < D.limit := by
      obtain ⟨f0, g1, g2, g3, g4, g5⟩ := C.mid.only
      have : D.used = f0.now.length := by unfold DS.used; rw [g1]; simp
      rw [this, g4, List.length_append, rows_len, List.length_take, C.lim]
      omega
    have h64 : p.length = 64 := (row_get _ _ _ (Nat.le_refl _) m p hp).2
    rw [addP]
    rcases append_cases h64 C.off h1 hused with ⟨n, ea, hn⟩ | ⟨ea, hz⟩
    · rw [ea, if_pos rfl]
      have C1 : ComI J D0 { D with left := n, files := upF D.files { f with now := f.now ++ [p] }, pends := D.pends ++ [(f.b, f.now.length, p)] } es e (m + 1) :=
        ⟨C.ok.append (find_iff h1).1, C.mid.append h1 hp, C.off, C.lim, fun h => hn (C.lft h)⟩
      rcases addP_com (ps := ps) C1 hd2 hu with ⟨a1, a2, a3⟩ | ⟨a1, G⟩
      · left
        refine ⟨a1, by simp only [List.length_cons]; rw [a2], ?_⟩
        have : m + (p :: ps).length = m + 1 + ps.length := by simp; omega
        rw [this]; exact a3
      · exact .inr ⟨a1, G⟩
    · rw [ea, if_neg (by simp)]
      exact .inr ⟨by simp, ⟨m, C.mid⟩, C.ok.cut, fun h => by rw [C.lft h] at hz; cases hz⟩
theorem commit_idle (O : DOk D) (I : Idle J D es) (ho : D.off = false) (hu : szs J es + sz J e ≤ D.limit) :
    ((addP D nJ (row (1 + szs J es) (J.enc e))).1 = 0 ∧ (addP D nJ (row (1 + szs J es) (J.enc e))).2.2 = sz J e ∧ ((addP D nJ (row (1 + szs J es) (J.enc e))).2.1.sync nJ).1 = 0 ∧ Idle J ((addP D nJ (row (1 + szs J es) (J.enc e))).2.1.sync nJ).2 (es ++ [e]) ∧ ((addP D nJ (row (1 + szs J es) (J.enc e))).2.1.sync nJ).2.off = false ∧
      ((addP D nJ (row (1 + szs J es) (J.enc e))).2.1.sync nJ).2.limit = D.limit ∧ (D.left = -1 → ((addP D nJ (row (1 + szs J es) (J.enc e))).2.1.sync nJ).2.left = -1)) ∨
    ((addP D nJ (row (1 + szs J es) (J.enc e))).1 = 0 ∧ ((addP D nJ (row (1 + szs J es) (J.enc e))).2.1.sync nJ).1 ≠ 0 ∧ Gone2 J D ((addP D nJ (row (1 + szs J es) (J.enc e))).2.1.sync nJ).2 es e) ∨
    ((addP D nJ (row (1 + szs J es) (J.enc e))).1 ≠ 0 ∧ Gone2 J D (addP D nJ (row (1 + szs J es) (J.enc e))).2.1 es e) := by
  have hr : (row (1 + szs J es) (J.enc e)).length = sz J e := sz_row
  rcases addP_com (D0 := D) (m := 0) (ps := row (1 + szs J es) (J.enc e)) ⟨O, I.begin, ho, rfl, id⟩ (by simp) hu with ⟨a1, a2, C⟩ | ⟨a1, G⟩
  · rw [Nat.zero_add, hr] at C
    rw [hr] at a2
    generalize addP D nJ (row (1 + szs J es) (J.enc e)) = R at *
    obtain ⟨v, D2, pg⟩ := R
    simp only at a1 a2 C ⊢
    obtain ⟨f, h1, _, _⟩ := C.mid.find
    rcases sync_cases C.off h1 with ⟨n, es', hn⟩ | ⟨es', hz⟩
    · left
      rw [es']
      exact ⟨a1, a2, rfl, Mid2.sync C.ok C.mid h1, C.off, C.lim, fun h => hn (C.lft h)⟩
    · right; left
      rw [es']
      exact ⟨a1, by simp, ⟨_, C.mid⟩, C.ok.cut, fun h => by rw [C.lft h] at hz; cases hz⟩
  · exact .inr (.inr ⟨a1, G⟩)
theorem Idle.used (I : Idle J D es) : D.used = szs J es := by
  obtain ⟨f, h1, h2, h3, h4, h5⟩ := I
  unfold DS.used
  rw [h1]
  simp [h3, rows_len]
end Go.Man
namespace Go.Man
open Go.Page Go.Dsk
set_option linter.unusedVariables false
set_option linter.unusedSimpArgs false
variable {J : Jr} {D : DS} {t u p : Bs} {b : Nat}
theorem delete_limit : (D.delete t).2.limit = D.limit := by
  unfold DS.delete
  split
  · rfl
  · split
    · rfl
    · split
      · exact deed_limit
      · exact deed_limit
theorem create_limit : (D.create t b).2.limit = D.limit := by
  unfold DS.create
  split
  · rfl
  · split
    · rfl
    · split
      · rfl
      · split
        · rfl
        · split
          · exact deed_limit
          · exact deed_limit
theorem append_limit : (D.append t p).2.limit = D.limit := by
  unfold DS.append
  split
  · rfl
  · split
    · rfl
    · split
      · rfl
      · split
        · rfl
        · split
          · exact deed_limit
          · exact deed_limit
theorem sync_limit : (D.sync t).2.limit = D.limit := by
  unfold DS.sync
  split
  · rfl
  · split
    · rfl
    · split
      · exact deed_limit
      · exact deed_limit
theorem rename_limit : (D.rename t u).2.limit = D.limit := by
  unfold DS.rename
  split
  · rfl
  · split
    · rfl
    · split
      · rfl
      · split
        · show (if t = u then D.deed.2 else _ : DS).limit = _
          split
          · exact deed_limit
          · exact deed_limit
        · exact deed_limit
theorem addP_limit : ∀ {l : List Bs} {D : DS}, (addP D t l).2.1.limit = D.limit
  | [], D => rfl
  | p :: l, D => by
    rw [addP]
    split
    · exact addP_limit.trans append_limit
    · exact append_limit
theorem fillP_limit : ∀ {es : List J.E} {D : DS} {a : Nat}, (fillP J D a es).2.1.limit = D.limit
  | [], D, a => rfl
  | e :: es, D, a => by
    rw [fillP]
    split
    · exact fillP_limit.trans addP_limit
    · exact addP_limit
theorem clearP_limit : (clearP D).2.limit = D.limit := by
  unfold clearP
  split
  · exact delete_limit
  · rfl
theorem layP_limit {pages : Nat} {es : List J.E} : (layP J D b pages es).2.1.limit = D.limit := by
  unfold layP
  split
  · exact clearP_limit
  · split
    · exact create_limit.trans clearP_limit
    · split
      · exact fillP_limit.trans (create_limit.trans clearP_limit)
      · split
        · exact sync_limit.trans (fillP_limit.trans (create_limit.trans clearP_limit))
        · exact rename_limit.trans (sync_limit.trans (fillP_limit.trans (create_limit.trans clearP_limit)))
theorem cleanL_limit {keep : Bs → Bool} : ∀ {l : List Bs} {D : DS} {n : Int}, (cleanL keep D l n).2.2.limit = D.limit
  | [], D, n => rfl
  | t :: l, D, n => by
    rw [cleanL]
    split
    · exact cleanL_limit
    · split
      · exact cleanL_limit.trans delete_limit
      · exact delete_limit
theorem cleanP_limit {names : List Bs} : (cleanP D names).2.2.limit = D.limit := cleanL_limit
end Go.Man
