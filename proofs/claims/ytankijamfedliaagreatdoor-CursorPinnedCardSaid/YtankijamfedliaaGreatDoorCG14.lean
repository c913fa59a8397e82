/- Pages that are asked for round and round: the plain law. -/
import Derived.Test.YtankijamfedliaaGreatDoorCG1
import Derived.Test.YtankijamfedliaaGreatDoorCG13
namespace Go.Pool
open Go.Ent
set_option linter.unusedVariables false
set_option linter.unusedSimpArgs false
theorem nodup_sub {α : Type} [BEq α] [LawfulBEq α] : ∀ {m l : List α}, m.Nodup → (∀ x ∈ m, x ∈ l) → m.length ≤ l.length
  | [], l, _, _ => Nat.zero_le _
  | a :: m, l, hn, hs => by
    have ha : a ∈ l := hs a (by simp)
    have hn' := List.nodup_cons.1 hn
    have ih := nodup_sub (m := m) (l := l.erase a) hn'.2 fun x hx => by
      have hne : x ≠ a := fun hc => hn'.1 (hc ▸ hx)
      exact (List.mem_erase_of_ne hne).2 (hs x (by simp [hx]))
    rw [List.length_erase_of_mem ha] at ih
    have : 0 < l.length := List.length_pos_of_mem ha
    simp only [List.length_cons]
    omega
theorem countP_set {α : Type} {q : α → Bool} : ∀ {l : List α} {k : Nat} {a b : α}, l[k]? = some a → (l.set k b).countP q + (if q a then 1 else 0) = l.countP q + (if q b then 1 else 0)
  | [], k, a, b, h => by simp at h
  | x :: l, 0, a, b, h => by
    simp only [List.getElem?_cons_zero, Option.some.injEq] at h
    subst h
    simp only [List.set_cons_zero, List.countP_cons]
    omega
  | x :: l, k + 1, a, b, h => by
    simp only [List.getElem?_cons_succ] at h
    have := countP_set (q := q) (b := b) h
    simp only [List.set_cons_succ, List.countP_cons]
    omega
theorem used_core {fr fr' : List Fr} (h : fr'.map core = fr.map core) : fr'.countP (fun f => f.is) = fr.countP (fun f => f.is) := by
  have e : ∀ l : List Fr, l.countP (fun f => f.is) = (l.map core).countP (fun c => c.2.2.2.2) := fun l => by
    rw [List.countP_map]; rfl
  rw [e, e, h]
def isI (fr : List Fr) : List Int := (fr.filter fun f => f.is).map fun f => f.i
theorem isI_len {fr : List Fr} : (isI fr).length = fr.countP fun f => f.is := by
  unfold isI; rw [List.length_map, List.countP_eq_length_filter]
theorem isI_mem {fr : List Fr} {i : Int} : i ∈ isI fr ↔ ∃ f ∈ fr, f.is = true ∧ f.i = i := by
  unfold isI
  simp only [List.mem_map, List.mem_filter]
  exact ⟨fun ⟨f, ⟨h1, h2⟩, h3⟩ => ⟨f, h1, h2, h3⟩, fun ⟨f, h1, h2, h3⟩ => ⟨f, ⟨h1, h2⟩, h3⟩⟩
theorem isI_nodup {P : PS} {s : Bs} (ok : P.ok) (hs : ∀ f ∈ P.fr, f.is = true → f.name = s) : (isI P.fr).Nodup := by
  unfold isI List.Nodup
  rw [List.pairwise_map]
  have h1 : P.fr.Pairwise fun f g => f.is = true → g.is = true → f.i ≠ g.i := by
    rw [List.pairwise_iff_getElem]
    intro a b ha hb hab h1 h2 hc
    have := ok.one a b _ _ (List.getElem?_eq_getElem ha) (List.getElem?_eq_getElem hb) h1 h2 (by rw [hs _ (List.getElem_mem ha) h1, hs _ (List.getElem_mem hb) h2]) hc
    omega
  have h2 := h1.filter (fun f => f.is)
  refine List.Pairwise.imp_of_mem ?_ h2
  intro a b ha hb hab
  exact hab (List.mem_filter.1 ha).2 (List.mem_filter.1 hb).2
/-- How the pool is behind so many pages that were asked for. -/
structure Cir (pg : Nat → List Ent) (s : Bs) (P : PS) (n pages t : Nat) (seen : Nat → Prop) : Prop where
  len : P.fr.length = n
  h0 : ∀ f ∈ P.fr, f.held = 0
  c : ∀ f ∈ P.fr, f.is = true → f.name = s ∧ ∃ j : Nat, j < pages ∧ f.i = (j : Nat) ∧ f.l = pg j
  ok : P.ok
  rd : P.reads = P.used + P.losses
  tt : P.reads + P.hits = t
  ls : P.losses = 0 ∨ P.used = n
  sn : P.losses = 0 → ∀ j, seen j → ∃ f ∈ P.fr, f.is = true ∧ f.i = (j : Nat)
  fw : pages ≤ n → P.losses = 0
section
variable {pg : Nat → List Ent} {s : Bs} {P : PS} {n pages t : Nat} {seen : Nat → Prop}
theorem Cir.less (C : Cir pg s P n pages t seen) {i : Nat} (hi : i < pages) (ha : P.at s i = none) : P.used + 1 ≤ pages := by
  have h1 := isI_nodup C.ok fun f hf hi => (C.c f hf hi).1
  have h0 : ((i : Nat) : Int) ∉ isI P.fr := fun hc => by
    obtain ⟨f, hf, his, hfi⟩ := isI_mem.1 hc
    obtain ⟨k, hk⟩ := List.getElem?_of_mem hf
    exact at_not C.ok ha k f hk his (C.c f hf his).1 hfi
  have h2 := nodup_sub (m := ((i : Nat) : Int) :: isI P.fr) (l := (List.range pages).map fun j => ((j : Nat) : Int)) (List.nodup_cons.2 ⟨h0, h1⟩) fun x hx => by
    rcases List.mem_cons.1 hx with rfl | hx
    · exact List.mem_map.2 ⟨i, List.mem_range.2 hi, rfl⟩
    · obtain ⟨f, hf, hi, rfl⟩ := isI_mem.1 hx
      obtain ⟨_, j, hj, hji, _⟩ := C.c f hf hi
      exact List.mem_map.2 ⟨j, List.mem_range.2 hj, hji.symm⟩
  rw [List.length_cons, isI_len, List.length_map, List.length_range] at h2
  exact h2
theorem Cir.all (C : Cir pg s P n pages t seen) (hs : ∀ j, j < pages → seen j) (h0 : P.losses = 0) : pages ≤ P.used := by
  have hn : ((List.range pages).map fun j => ((j : Nat) : Int)).Nodup := by
    unfold List.Nodup
    rw [List.pairwise_map]
    exact List.Pairwise.imp (fun {a b} (hab : a < b) hc => by omega) (List.pairwise_lt_range (n := pages))
  have h2 := nodup_sub (l := isI P.fr) hn fun x hx => by
    obtain ⟨j, hj, rfl⟩ := List.mem_map.1 hx
    obtain ⟨f, hf, hi, hfi⟩ := C.sn h0 j (hs j (List.mem_range.1 hj))
    exact isI_mem.2 ⟨f, hf, hi, hfi⟩
  rw [isI_len, List.length_map, List.length_range] at h2
  exact h2
theorem used_len : P.used ≤ P.fr.length := List.countP_le_length
/-- A page is held and freed. -/
theorem Cir.step (C : Cir pg s P n pages t seen) (hn : 1 ≤ n) {i : Nat} (hi : i < pages) : ∃ P1, P.hold s i (0, pg i) = (0, pg i, P1) ∧ (P1.ok → ∃ P2, P1.free s i = (0, P2) ∧ (P2.ok → Cir pg s P2 n pages (t + 1) fun j => seen j ∨ j = i)) := by
  cases ha : P.at s i with
  | some k =>
    obtain ⟨f, hf, his, hfn, hfi⟩ := of_at ha
    have hfm := List.mem_of_getElem? hf
    have hk := (List.getElem?_eq_some_iff.1 hf).1
    obtain ⟨_, j, hj, hji, hl⟩ := C.c f hfm his
    have hij : j = i := by rw [hji] at hfi; omega
    subst hij
    refine ⟨{ P with fr := P.fr.set k { f with held := f.held + 1, mark := true }, hits := P.hits + 1 }, by simp only [PS.hold, ha, hf, up, hl], fun ok1 => ?_⟩
    have hk1 : (P.fr.set k { f with held := f.held + 1, mark := true })[k]? = some { f with held := f.held + 1, mark := true } := List.getElem?_set_self hk
    have ha1 := at_some ok1 hk1 his hfn hfi
    refine ⟨{ P with fr := P.fr.set k { f with held := f.held, mark := true }, hits := P.hits + 1 }, ?_, fun ok2 => ?_⟩
    · simp only [PS.free, ha1, hk1]
      rw [if_neg (by omega)]
      simp only [List.set_set, Nat.add_sub_cancel]
    · have hu : PS.used { P with fr := P.fr.set k { f with held := f.held, mark := true }, hits := P.hits + 1 } = P.used := by
        have := countP_set (q := fun f : Fr => f.is) (b := { f with held := f.held, mark := true }) hf
        rw [if_pos his] at this
        exact Nat.add_right_cancel this
      refine ⟨by simp only [List.length_set]; exact C.len, fun g hg => ?_, fun g hg hgi => ?_, ok2, by rw [hu]; exact C.rd, by have := C.tt; simp only; omega, by rw [hu]; exact C.ls, fun hl0 m hm => ?_, C.fw⟩
      · rcases List.mem_or_eq_of_mem_set hg with hg | rfl
        · exact C.h0 g hg
        · exact C.h0 f hfm
      · rcases List.mem_or_eq_of_mem_set hg with hg | rfl
        · exact C.c g hg hgi
        · exact C.c f hfm his
      · have key : ∀ m : Nat, (∃ g ∈ P.fr, g.is = true ∧ g.i = (m : Nat)) → ∃ g ∈ P.fr.set k { f with held := f.held, mark := true }, g.is = true ∧ g.i = (m : Nat) := fun m ⟨g, hg, h1, h2⟩ => by
          obtain ⟨k2, hk2⟩ := List.getElem?_of_mem hg
          by_cases hkk : k2 = k
          · subst hkk
            rw [hf] at hk2; cases hk2
            exact ⟨_, List.mem_of_getElem? (List.getElem?_set_self hk), h1, h2⟩
          · exact ⟨g, List.mem_of_getElem? (i := k2) (by rw [List.getElem?_set, if_neg (fun hc => hkk hc.symm)]; exact hk2), h1, h2⟩
        rcases hm with hm | rfl
        · exact key m (C.sn hl0 m hm)
        · exact key m ⟨f, hfm, his, hfi⟩
  | none =>
    have hless := C.less hi ha
    have hheld : P.held ≠ P.fr.length := by
      have : P.held = 0 := List.countP_eq_zero.2 fun f hf => by simp [C.h0 f hf]
      rw [this, C.len]; omega
    -- where it is taken in
    obtain ⟨k, P', hp⟩ : ∃ k P', P.place = some (k, P') ∧ k < n ∧ P'.fr.map core = P.fr.map core ∧ P'.hits = P.hits ∧ P'.reads = P.reads ∧
        ((∃ f, P'.fr[k]? = some f ∧ f.is = false ∧ P'.losses = P.losses) ∨ ((∀ f ∈ P'.fr, f.is = true) ∧ P'.losses = P.losses + 1)) := by
      cases hfi : P.fr.findIdx? (fun f => !f.is) with
      | some k =>
        rw [List.findIdx?_eq_some_iff_getElem] at hfi
        obtain ⟨hl, h1, h2⟩ := hfi
        refine ⟨k, P, ?_, by rw [← C.len]; exact hl, rfl, rfl, rfl, .inl ⟨_, List.getElem?_eq_getElem hl, by simpa using h1, rfl⟩⟩
        unfold PS.place
        rw [List.findIdx?_eq_some_iff_getElem.2 ⟨hl, h1, h2⟩]
      | none =>
        have hfull : ∀ f ∈ P.fr, f.is = true := fun f hf => by simpa using (List.findIdx?_eq_none_iff.1 hfi) f hf
        have hpos : 0 < P.fr.length := by rw [C.len]; omega
        have hhand : P.hand < P.fr.length := by rcases C.ok.hand with h | h <;> omega
        obtain ⟨⟨k, fr', hd⟩, hsp⟩ := spin_some hhand ⟨P.fr[0], List.getElem_mem hpos, C.h0 _ (List.getElem_mem hpos)⟩
        obtain ⟨c1, c2, _, _⟩ := spin_core hsp hhand
        refine ⟨k, { P with fr := fr', hand := hd, losses := P.losses + 1 }, ?_, by rw [← C.len]; exact c2, c1, rfl, rfl, .inr ⟨fun f hf => ?_, rfl⟩⟩
        · unfold PS.place
          rw [hfi]; simp only; rw [if_neg hheld, hsp]
        · obtain ⟨g, hg, he⟩ := core_mem c1 hf
          simp only [core, Prod.mk.injEq] at he
          rw [he.2.2.2.2]; exact hfull g hg
    obtain ⟨hp, hkn, hcore, ph, pr, hcase⟩ := hp
    have hlen : P'.fr.length = n := by
      have := congrArg List.length hcore
      rw [List.length_map, List.length_map, C.len] at this; exact this
    have hk : k < P'.fr.length := by omega
    refine ⟨P'.take k s i (pg i), by simp [PS.hold, ha, hp], fun ok1 => ?_⟩
    have hk1 : (P'.take k s i (pg i)).fr[k]? = some ⟨s, i, pg i, 1, true, true⟩ := List.getElem?_set_self hk
    have ha1 := at_some ok1 hk1 rfl rfl rfl
    refine ⟨{ P' with fr := P'.fr.set k ⟨s, i, pg i, 0, true, true⟩, reads := P'.reads + 1 }, ?_, fun ok2 => ?_⟩
    · simp only [PS.free, ha1, hk1]
      rw [if_neg (by omega)]
      simp only [PS.take, List.set_set]
    · obtain ⟨f, hf⟩ : ∃ f, P'.fr[k]? = some f := ⟨_, List.getElem?_eq_getElem hk⟩
      have hcu := countP_set (q := fun f : Fr => f.is) (b := (⟨s, i, pg i, 0, true, true⟩ : Fr)) hf
      have hu0 : P'.fr.countP (fun f => f.is) = P.used := used_core hcore
      have hset : ∀ g ∈ P'.fr.set k ⟨s, i, pg i, 0, true, true⟩, g = ⟨s, i, pg i, 0, true, true⟩ ∨ ∃ g0 ∈ P.fr, core g = core g0 := fun g hg => by
        rcases List.mem_or_eq_of_mem_set hg with hg | rfl
        · exact .inr (core_mem hcore hg)
        · exact .inl rfl
      have hl := C.ls
      have hrd := C.rd
      have htt := C.tt
      have hul := used_len (P := P)
      rw [C.len] at hul
      have hnew : (⟨s, i, pg i, 0, true, true⟩ : Fr) ∈ P'.fr.set k ⟨s, i, pg i, 0, true, true⟩ := List.mem_of_getElem? (List.getElem?_set_self hk)
      have hu2 : PS.used { P' with fr := P'.fr.set k ⟨s, i, pg i, 0, true, true⟩, reads := P'.reads + 1 } = (P'.fr.set k ⟨s, i, pg i, 0, true, true⟩).countP fun f => f.is := rfl
      rcases hcase with ⟨f2, hf2, hfi, hlo⟩ | ⟨hfull, hlo⟩
      · rw [hf] at hf2; cases hf2
        simp only [hfi, Bool.false_eq_true, if_false, if_true, Nat.add_zero] at hcu
        have hlt : P.used < n := by
          have h3 : P'.fr.countP (fun f => f.is) < P'.fr.length := by
            rcases Nat.lt_or_ge (P'.fr.countP fun f => f.is) P'.fr.length with h | h
            · exact h
            · exfalso
              have := List.countP_eq_length.1 (Nat.le_antisymm List.countP_le_length h) f (List.mem_of_getElem? hf)
              rw [hfi] at this; cases this
          omega
        have hl0 : P.losses = 0 := by rcases hl with h | h <;> omega
        refine ⟨by simp only [List.length_set]; exact hlen, fun g hg => ?_, fun g hg hgi => ?_, ok2, by rw [hu2]; show P'.reads + 1 = _ + P'.losses; omega, by show P'.reads + 1 + P'.hits = t + 1; omega, .inl (by show P'.losses = 0; omega), fun _ m hm => ?_, fun _ => by show P'.losses = 0; omega⟩
        · rcases hset g hg with rfl | ⟨g0, hg0, he⟩
          · rfl
          · simp only [core, Prod.mk.injEq] at he
            rw [he.2.2.2.1]; exact C.h0 g0 hg0
        · rcases hset g hg with rfl | ⟨g0, hg0, he⟩
          · exact ⟨rfl, i, hi, rfl, rfl⟩
          · simp only [core, Prod.mk.injEq] at he
            obtain ⟨e1, e2, e3, _, e5⟩ := he
            rw [e1, e2, e3]
            exact C.c g0 hg0 (by rw [← e5]; exact hgi)
        · rcases hm with hm | rfl
          · obtain ⟨g, hg, h1, h2⟩ := C.sn hl0 m hm
            obtain ⟨k2, hk2⟩ := List.getElem?_of_mem hg
            have hc2 : (P'.fr.map core)[k2]? = (P.fr.map core)[k2]? := by rw [hcore]
            rw [List.getElem?_map, List.getElem?_map, hk2] at hc2
            cases hg2 : P'.fr[k2]? with
            | none => rw [hg2] at hc2; cases hc2
            | some g2 =>
              rw [hg2] at hc2
              simp only [Option.map_some, Option.some.injEq, core, Prod.mk.injEq] at hc2
              have hne : k2 ≠ k := by
                rintro rfl
                rw [hf] at hg2; cases hg2
                rw [hc2.2.2.2.2, h1] at hfi; cases hfi
              exact ⟨g2, List.mem_of_getElem? (i := k2) (by simp only; rw [List.getElem?_set, if_neg (fun hc => hne hc.symm)]; exact hg2), by rw [hc2.2.2.2.2]; exact h1, by rw [hc2.2.1]; exact h2⟩
          · exact ⟨_, hnew, rfl, rfl⟩
      · have hfi : f.is = true := hfull f (List.mem_of_getElem? hf)
        simp only [hfi, if_true] at hcu
        have hun : P.used = n := by
          rw [← hu0, List.countP_eq_length.2 hfull, hlen]
        refine ⟨by simp only [List.length_set]; exact hlen, fun g hg => ?_, fun g hg hgi => ?_, ok2, by rw [hu2]; show P'.reads + 1 = _ + P'.losses; omega, by show P'.reads + 1 + P'.hits = t + 1; omega, .inr (by rw [hu2]; omega), fun h0 => by have : P'.losses = 0 := h0; omega, fun hc => by omega⟩
        · rcases hset g hg with rfl | ⟨g0, hg0, he⟩
          · rfl
          · simp only [core, Prod.mk.injEq] at he
            rw [he.2.2.2.1]; exact C.h0 g0 hg0
        · rcases hset g hg with rfl | ⟨g0, hg0, he⟩
          · exact ⟨rfl, i, hi, rfl, rfl⟩
          · simp only [core, Prod.mk.injEq] at he
            obtain ⟨e1, e2, e3, _, e5⟩ := he
            rw [e1, e2, e3]
            exact C.c g0 hg0 (by rw [← e5]; exact hgi)
end
end Go.Pool

/- What is held stays at hand: the plain law. -/
namespace Go.Pool
open Go.Ent
set_option linter.unusedVariables false
set_option linter.unusedSimpArgs false
/-- One frame is held, once. -/
structure Kp (s : Bs) (i : Int) (P : PS) (k : Nat) : Prop where
  me : ∃ f, P.fr[k]? = some f ∧ f.is = true ∧ f.name = s ∧ f.i = i ∧ f.held = 1
  other : ∀ (j : Nat) (g : Fr), j ≠ k → P.fr[j]? = some g → g.held = 0
section
variable {s : Bs} {i : Int} {P : PS} {k : Nat}
theorem Kp.held (K : Kp s i P k) : P.held = 1 := by
  obtain ⟨f, hf, _, _, _, h1⟩ := K.me
  have h0 : (P.fr.set k Fr.none).countP (fun f => decide (0 < f.held)) = 0 := List.countP_eq_zero.2 fun g hg => by
    obtain ⟨j, hj⟩ := List.getElem?_of_mem hg
    rcases set_at hj with ⟨rfl, rfl⟩ | ⟨hne, hj⟩
    · simp [Fr.none]
    · simp [K.other j g hne hj]
  have := countP_set (q := fun f : Fr => decide (0 < f.held)) (b := Fr.none) hf
  rw [h0, if_pos (by simp [h1]), if_neg (by simp [Fr.none])] at this
  unfold PS.held
  omega
theorem Kp.has (K : Kp s i P k) (ok : P.ok) : P.at s i = some k := by
  obtain ⟨f, hf, h1, h2, h3, _⟩ := K.me
  exact at_some ok hf h1 h2 h3
/-- It is freed. -/
theorem Kp.free (K : Kp s i P k) (ok : P.ok) : ∃ P2, P.free s i = (0, P2) ∧ P2.held = 0 := by
  obtain ⟨f, hf, h1, h2, h3, h4⟩ := K.me
  have hk := (List.getElem?_eq_some_iff.1 hf).1
  refine ⟨{ P with fr := P.fr.set k { f with held := f.held - 1 } }, ?_, ?_⟩
  · simp only [PS.free, K.has ok, hf]
    rw [if_neg (by omega)]
  · refine List.countP_eq_zero.2 fun g hg => ?_
    obtain ⟨j, hj⟩ := List.getElem?_of_mem hg
    rcases set_at hj with ⟨rfl, rfl⟩ | ⟨hne, hj⟩
    · simp [h4]
    · simp [K.other j g hne hj]
theorem get_core {fr fr' : List Fr} (h : fr'.map core = fr.map core) {j : Nat} {g : Fr} (hg : fr'[j]? = some g) : ∃ g0, fr[j]? = some g0 ∧ core g = core g0 := by
  have : (fr'.map core)[j]? = (fr.map core)[j]? := by rw [h]
  rw [List.getElem?_map, hg, List.getElem?_map] at this
  cases hg0 : fr[j]? with
  | none => rw [hg0] at this; cases this
  | some g0 =>
    rw [hg0] at this
    simp only [Option.map_some, Option.some.injEq] at this
    exact ⟨g0, rfl, this⟩
/-- Another page is held and freed. -/
theorem Kp.step (K : Kp s i P k) (ok : P.ok) {s' : Bs} {i' : Int} {r : Int × List Ent} : ((P.hold s' i' r).1 ≠ 0 → (P.hold s' i' r).2.2 = P) ∧
    ((P.hold s' i' r).1 = 0 → (P.hold s' i' r).2.2.ok → ∃ P2, (P.hold s' i' r).2.2.free s' i' = (0, P2) ∧ Kp s i P2 k) := by
  obtain ⟨f, hf, h1, h2, h3, h4⟩ := K.me
  have hk := (List.getElem?_eq_some_iff.1 hf).1
  cases ha : P.at s' i' with
  | some k2 =>
    obtain ⟨f2, hf2, g1, g2, g3⟩ := of_at ha
    have hk2 := (List.getElem?_eq_some_iff.1 hf2).1
    have e : P.hold s' i' r = (0, f2.l, { P with fr := P.fr.set k2 { f2 with held := f2.held + 1, mark := true }, hits := P.hits + 1 }) := by simp only [PS.hold, ha, hf2, up]
    rw [e]
    refine ⟨fun hc => absurd rfl hc, fun _ ok1 => ?_⟩
    have hk1 : (P.fr.set k2 { f2 with held := f2.held + 1, mark := true })[k2]? = some { f2 with held := f2.held + 1, mark := true } := List.getElem?_set_self hk2
    have ha1 := at_some ok1 hk1 g1 g2 g3
    refine ⟨{ P with fr := P.fr.set k2 { f2 with held := f2.held, mark := true }, hits := P.hits + 1 }, ?_, ?_, ?_⟩
    · simp only [PS.free, ha1, hk1]
      rw [if_neg (by omega)]
      simp only [List.set_set, Nat.add_sub_cancel]
    · by_cases hkk : k2 = k
      · subst hkk
        rw [hf] at hf2; cases hf2
        exact ⟨_, List.getElem?_set_self hk, h1, h2, h3, h4⟩
      · exact ⟨f, by simp only; rw [List.getElem?_set, if_neg hkk]; exact hf, h1, h2, h3, h4⟩
    · intro j g hj hg
      rcases set_at hg with ⟨rfl, rfl⟩ | ⟨_, hg⟩
      · exact K.other j f2 hj hf2
      · exact K.other j g hj hg
  | none =>
    by_cases hr : r.1 ≠ 0
    · have e : P.hold s' i' r = (r.1, [], P) := by simp only [PS.hold, ha]; rw [if_pos hr]
      rw [e]
      exact ⟨fun _ => rfl, fun hc => absurd hc hr⟩
    · have hr : r.1 = 0 := Decidable.not_not.1 hr
      cases hp : P.place with
      | none =>
        have e : P.hold s' i' r = (90, [], P) := by simp [PS.hold, ha, hr, hp]
        rw [e]
        exact ⟨fun _ => rfl, fun hc => absurd hc (by simp)⟩
      | some kp =>
        obtain ⟨k2, P'⟩ := kp
        have e : P.hold s' i' r = (0, r.2, P'.take k2 s' i' r.2) := by simp [PS.hold, ha, hr, hp]
        rw [e]
        refine ⟨fun hc => absurd rfl hc, fun _ ok1 => ?_⟩
        obtain ⟨hcore, _, _, _⟩ := place_core hp ok.hand
        have hlen : P'.fr.length = P.fr.length := by
          have := congrArg List.length hcore
          rw [List.length_map, List.length_map] at this; exact this
        -- it is another frame
        have hk2 : k2 ≠ k ∧ k2 < P.fr.length := by
          unfold PS.place at hp
          split at hp
          · rename_i k3 hfi
            cases hp
            rw [List.findIdx?_eq_some_iff_getElem] at hfi
            obtain ⟨hl, hi, _⟩ := hfi
            refine ⟨?_, hl⟩
            rintro rfl
            rw [List.getElem?_eq_getElem hl] at hf
            have := Option.some.inj hf
            rw [this, h1] at hi; cases hi
          · split at hp
            · cases hp
            · split at hp
              · rename_i k3 fr3 hd3 hsp
                cases hp
                have hhand : P.hand < P.fr.length := by rcases ok.hand with h | h <;> omega
                obtain ⟨c1, c2, _, c4⟩ := spin_core hsp hhand
                refine ⟨?_, c2⟩
                rintro rfl
                obtain ⟨g, hg⟩ : ∃ g, fr3[k2]? = some g := ⟨_, List.getElem?_eq_getElem (by rw [hlen]; exact c2)⟩
                obtain ⟨g0, hg0, he⟩ := get_core c1 hg
                rw [hf] at hg0; cases hg0
                have := c4 g hg
                simp only [core, Prod.mk.injEq] at he
                omega
              · cases hp
        have hk2l : k2 < P'.fr.length := by omega
        have hk1 : (P'.take k2 s' i' r.2).fr[k2]? = some ⟨s', i', r.2, 1, true, true⟩ := List.getElem?_set_self hk2l
        have ha1 := at_some ok1 hk1 rfl rfl rfl
        refine ⟨{ P' with fr := P'.fr.set k2 ⟨s', i', r.2, 0, true, true⟩, reads := P'.reads + 1 }, ?_, ?_, ?_⟩
        · simp only [PS.free, ha1, hk1]
          rw [if_neg (by omega)]
          simp only [PS.take, List.set_set]
        · obtain ⟨f', hf'⟩ : ∃ f', P'.fr[k]? = some f' := ⟨_, List.getElem?_eq_getElem (by rw [hlen]; exact hk)⟩
          obtain ⟨g0, hg0, he⟩ := get_core hcore hf'
          rw [hf] at hg0; cases hg0
          simp only [core, Prod.mk.injEq] at he
          exact ⟨f', by simp only; rw [List.getElem?_set, if_neg hk2.1]; exact hf', by rw [he.2.2.2.2]; exact h1, by rw [he.1]; exact h2, by rw [he.2.1]; exact h3, by rw [he.2.2.2.1]; exact h4⟩
        · intro j g hj hg
          rcases set_at hg with ⟨rfl, rfl⟩ | ⟨_, hg⟩
          · rfl
          · obtain ⟨g0, hg0, he⟩ := get_core hcore hg
            simp only [core, Prod.mk.injEq] at he
            rw [he.2.2.2.1]; exact K.other j g0 hj hg0
theorem Kp.drop (K : Kp s i P k) {s' : Bs} : Kp s i (P.drop s').2 k := by
  obtain ⟨f, hf, h1, h2, h3, h4⟩ := K.me
  refine ⟨⟨f, ?_, h1, h2, h3, h4⟩, fun j g hj hg => ?_⟩
  · unfold PS.drop
    simp only [List.getElem?_map, hf, Option.map_some]
    rw [if_neg (by simp [gone, h4])]
  · unfold PS.drop at hg
    simp only [List.getElem?_map] at hg
    cases hg0 : P.fr[j]? with
    | none => rw [hg0] at hg; cases hg
    | some g0 =>
      rw [hg0] at hg
      simp only [Option.map_some, Option.some.injEq] at hg
      subst hg
      split
      · rfl
      · exact K.other j g0 hj hg0
end
end Go.Pool

/- A pool of which at most one page is held: the plain law. -/
namespace Go.Pool
open Go.Ent
set_option linter.unusedVariables false
set_option linter.unusedSimpArgs false
/-- All that is at hand is the file's. -/
def Own (pg : Nat → List Ent) (s : Bs) (pages : Nat) (P : PS) : Prop := ∀ f ∈ P.fr, f.is = true → f.name = s ∧ ∃ j : Nat, j < pages ∧ f.i = (j : Nat) ∧ f.l = pg j
structure FreeP (pg : Nat → List Ent) (s : Bs) (pages n : Nat) (P : PS) : Prop where
  len : P.fr.length = n
  own : Own pg s pages P
  h0 : ∀ f ∈ P.fr, f.held = 0
structure HeldP (pg : Nat → List Ent) (s : Bs) (pages n i : Nat) (P : PS) : Prop where
  len : P.fr.length = n
  own : Own pg s pages P
  kp : ∃ k, Kp s (i : Nat) P k
section
variable {pg : Nat → List Ent} {s : Bs} {P : PS} {n pages i : Nat}
theorem FreeP.held (F : FreeP pg s pages n P) : P.held = 0 := List.countP_eq_zero.2 fun f hf => by simp [F.h0 f hf]
theorem HeldP.held (H : HeldP pg s pages n i P) : P.held = 1 := H.kp.elim fun k K => K.held
/-- A page is held of a pool that holds none. -/
theorem FreeP.hold (F : FreeP pg s pages n P) (ok : P.ok) (hn : 1 ≤ n) (hi : i < pages) : ∃ P1, P.hold s (i : Int) (0, pg i) = (0, pg i, P1) ∧ HeldP pg s pages n i P1 := by
  cases ha : P.at s i with
  | some k =>
    obtain ⟨f, hf, his, hfn, hfi⟩ := of_at ha
    have hfm := List.mem_of_getElem? hf
    have hk := (List.getElem?_eq_some_iff.1 hf).1
    obtain ⟨_, j, hj, hji, hl⟩ := F.own f hfm his
    have hij : j = i := by rw [hji] at hfi; omega
    subst hij
    refine ⟨{ P with fr := P.fr.set k { f with held := f.held + 1, mark := true }, hits := P.hits + 1 }, by simp only [PS.hold, ha, hf, up, hl], by simp only [List.length_set]; exact F.len, fun g hg hgi => ?_, k, ⟨_, List.getElem?_set_self hk, his, hfn, hfi, by simp [F.h0 f hfm]⟩, fun j g hj hg => ?_⟩
    · rcases List.mem_or_eq_of_mem_set hg with hg | rfl
      · exact F.own g hg hgi
      · exact F.own f hfm his
    · rcases set_at hg with ⟨rfl, _⟩ | ⟨_, hg⟩
      · exact absurd rfl hj
      · exact F.h0 g (List.mem_of_getElem? hg)
  | none =>
    have hheld : P.held ≠ P.fr.length := by rw [F.held, F.len]; omega
    obtain ⟨k, P', hp, hkn, hcore⟩ : ∃ k P', P.place = some (k, P') ∧ k < P'.fr.length ∧ P'.fr.map core = P.fr.map core := by
      cases hfi : P.fr.findIdx? (fun f => !f.is) with
      | some k =>
        rw [List.findIdx?_eq_some_iff_getElem] at hfi
        obtain ⟨hl, h1, h2⟩ := hfi
        refine ⟨k, P, ?_, hl, rfl⟩
        unfold PS.place
        rw [List.findIdx?_eq_some_iff_getElem.2 ⟨hl, h1, h2⟩]
      | none =>
        have hpos : 0 < P.fr.length := by rw [F.len]; omega
        have hhand : P.hand < P.fr.length := by rcases ok.hand with h | h <;> omega
        obtain ⟨⟨k, fr', hd⟩, hsp⟩ := spin_some hhand ⟨P.fr[0], List.getElem_mem hpos, F.h0 _ (List.getElem_mem hpos)⟩
        obtain ⟨c1, c2, _, _⟩ := spin_core hsp hhand
        refine ⟨k, { P with fr := fr', hand := hd, losses := P.losses + 1 }, ?_, ?_, c1⟩
        · unfold PS.place
          rw [hfi]; simp only; rw [if_neg hheld, hsp]
        · have := congrArg List.length c1
          rw [List.length_map, List.length_map] at this
          show k < fr'.length; omega
    refine ⟨P'.take k s i (pg i), by simp [PS.hold, ha, hp], ?_, fun g hg hgi => ?_, k, ⟨_, List.getElem?_set_self hkn, rfl, rfl, rfl, rfl⟩, fun j g hj hg => ?_⟩
    · have := congrArg List.length hcore
      rw [List.length_map, List.length_map, F.len] at this
      show (P'.fr.set k _).length = n
      rw [List.length_set]; exact this
    · rcases List.mem_or_eq_of_mem_set hg with hg | rfl
      · obtain ⟨g0, hg0, he⟩ := core_mem hcore hg
        simp only [core, Prod.mk.injEq] at he
        obtain ⟨e1, e2, e3, _, e5⟩ := he
        rw [e1, e2, e3]
        exact F.own g0 hg0 (by rw [← e5]; exact hgi)
      · exact ⟨rfl, i, hi, rfl, rfl⟩
    · rcases set_at hg with ⟨rfl, _⟩ | ⟨_, hg⟩
      · exact absurd rfl hj
      · obtain ⟨g0, hg0, he⟩ := get_core hcore hg
        simp only [core, Prod.mk.injEq] at he
        rw [he.2.2.2.1]; exact F.h0 g0 (List.mem_of_getElem? hg0)
/-- It is freed. -/
theorem HeldP.free (H : HeldP pg s pages n i P) (ok : P.ok) : ∃ P2, P.free s (i : Int) = (0, P2) ∧ FreeP pg s pages n P2 := by
  obtain ⟨k, K⟩ := H.kp
  obtain ⟨f, hf, h1, h2, h3, h4⟩ := K.me
  refine ⟨{ P with fr := P.fr.set k { f with held := f.held - 1 } }, ?_, by simp only [List.length_set]; exact H.len, fun g hg hgi => ?_, fun g hg => ?_⟩
  · simp only [PS.free, K.has ok, hf]
    rw [if_neg (by omega)]
  · rcases List.mem_or_eq_of_mem_set hg with hg | rfl
    · exact H.own g hg hgi
    · exact H.own f (List.mem_of_getElem? hf) h1
  · obtain ⟨j, hj⟩ := List.getElem?_of_mem hg
    rcases set_at hj with ⟨rfl, rfl⟩ | ⟨hne, hj⟩
    · show f.held - 1 = 0; omega
    · exact K.other j g hne hj
/-- A pool all of whose frames are held, a page that is not at hand. -/
theorem hold_full {r : List Ent} {i : Int} (ha : P.at s i = none) (hf : ∀ f ∈ P.fr, f.is = true) (hh : P.held = P.fr.length) : P.hold s i (0, r) = (90, [], P) := by
  have hp : P.place = none := by
    unfold PS.place
    rw [findIdx_none' hf]
    simp only
    rw [if_pos hh]
  simp [PS.hold, ha, hp]
where
  findIdx_none' (hf : ∀ f ∈ P.fr, f.is = true) : P.fr.findIdx? (fun f => !f.is) = none := by
    rw [List.findIdx?_eq_none_iff]
    intro x hx
    simp [hf x hx]
end
end Go.Pool

/- What a cursor tells where pages may not be had: the plain law. -/
namespace Go.Cur
open Go.Ent Go.Seg Go.Pool
set_option linter.unusedVariables false
set_option linter.unusedSimpArgs false
/-- The entries of pages up to one that may not be had, and why it may not. -/
def tailL (r : Nat → Int) : List (List Ent) → Nat → List Ent × Int
  | [], _ => ([], 0)
  | g :: gs, j => if r j = 0 then (g ++ (tailL r gs (j + 1)).1, (tailL r gs (j + 1)).2) else ([], r j)
section
variable {r : Nat → Int} {gs : List (List Ent)} {g : List Ent} {i j : Nat} {e : Ent}
theorem drop_get {α : Type} {l : List α} {i : Nat} {x : α} (h : l[i]? = some x) : l.drop i = x :: l.drop (i + 1) := by
  obtain ⟨hi, rfl⟩ := List.getElem?_eq_some_iff.1 h
  exact List.drop_eq_getElem_cons hi
theorem tail_good : ∀ {gs : List (List Ent)} {j : Nat}, (∀ k, j ≤ k → r k = 0) → tailL r gs j = (gs.flatten, 0)
  | [], j, h => rfl
  | g :: gs, j, h => by
    rw [tailL, if_pos (h j (Nat.le_refl _)), tail_good (j := j + 1) fun k hk => h k (by omega)]
    rfl
theorem tail_at (hg : gs[i]? = some g) (h0 : r i = 0) : tailL r (gs.drop i) i = (g ++ (tailL r (gs.drop (i + 1)) (i + 1)).1, (tailL r (gs.drop (i + 1)) (i + 1)).2) := by
  rw [drop_get hg, tailL, if_pos h0]
theorem tail_bad (hi : i < gs.length) (h0 : r i ≠ 0) : tailL r (gs.drop i) i = ([], r i) := by
  rw [drop_get (List.getElem?_eq_getElem hi), tailL, if_neg h0]
theorem tail_end (hi : gs.length ≤ i) : tailL r (gs.drop i) i = ([], 0) := by
  rw [List.drop_eq_nil_of_le hi]; rfl
end
/-- All that is at hand is the file's, and may be had. -/
def OwnB (gs : List (List Ent)) (r : Nat → Int) (s : Bs) (P : PS) : Prop := ∀ f ∈ P.fr, f.is = true → f.name = s ∧ ∃ j : Nat, gs[j]? = some f.l ∧ f.i = (j : Nat) ∧ r j = 0
structure FreeB (gs : List (List Ent)) (r : Nat → Int) (s : Bs) (n : Nat) (P : PS) : Prop where
  len : P.fr.length = n
  own : OwnB gs r s P
  h0 : ∀ f ∈ P.fr, f.held = 0
structure HeldB (gs : List (List Ent)) (r : Nat → Int) (s : Bs) (n i : Nat) (P : PS) : Prop where
  len : P.fr.length = n
  own : OwnB gs r s P
  kp : ∃ k, Kp s (i : Nat) P k
section
variable {pg : Nat → Int × List Ent} {gs : List (List Ent)} {r : Nat → Int} {s : Bs} {P : PS} {n i : Nat}
theorem FreeB.held (F : FreeB gs r s n P) : P.held = 0 := List.countP_eq_zero.2 fun f hf => by simp [F.h0 f hf]
theorem HeldB.held (H : HeldB gs r s n i P) : P.held = 1 := H.kp.elim fun k K => K.held
theorem FreeB.hold (F : FreeB gs r s n P) (ok : P.ok) (hn : 1 ≤ n) {g : List Ent} (hi : gs[i]? = some g) (h0 : r i = 0) : ∃ P1, P.hold s (i : Int) (0, g) = (0, g, P1) ∧ HeldB gs r s n i P1 := by
  cases ha : P.at s i with
  | some k =>
    obtain ⟨f, hf, his, hfn, hfi⟩ := of_at ha
    have hfm := List.mem_of_getElem? hf
    have hk := (List.getElem?_eq_some_iff.1 hf).1
    obtain ⟨_, j, hj, hji, hl⟩ := F.own f hfm his
    have hij : j = i := by rw [hji] at hfi; omega
    subst hij
    rw [hi] at hj
    have hl : g = f.l := by simpa using hj
    refine ⟨{ P with fr := P.fr.set k { f with held := f.held + 1, mark := true }, hits := P.hits + 1 }, by simp only [PS.hold, ha, hf, up, hl], by simp only [List.length_set]; exact F.len, fun g' hg hgi => ?_, k, ⟨_, List.getElem?_set_self hk, his, hfn, hfi, by simp [F.h0 f hfm]⟩, fun j g hj hg => ?_⟩
    · rcases List.mem_or_eq_of_mem_set hg with hg | rfl
      · exact F.own _ hg hgi
      · exact F.own f hfm his
    · rcases set_at hg with ⟨rfl, _⟩ | ⟨_, hg⟩
      · exact absurd rfl hj
      · exact F.h0 g (List.mem_of_getElem? hg)
  | none =>
    have hheld : P.held ≠ P.fr.length := by rw [F.held, F.len]; omega
    obtain ⟨k, P', hp, hkn, hcore⟩ : ∃ k P', P.place = some (k, P') ∧ k < P'.fr.length ∧ P'.fr.map core = P.fr.map core := by
      cases hfi : P.fr.findIdx? (fun f => !f.is) with
      | some k =>
        rw [List.findIdx?_eq_some_iff_getElem] at hfi
        obtain ⟨hl, h1, h2⟩ := hfi
        refine ⟨k, P, ?_, hl, rfl⟩
        unfold PS.place
        rw [List.findIdx?_eq_some_iff_getElem.2 ⟨hl, h1, h2⟩]
      | none =>
        have hpos : 0 < P.fr.length := by rw [F.len]; omega
        have hhand : P.hand < P.fr.length := by rcases ok.hand with h | h <;> omega
        obtain ⟨⟨k, fr', hd⟩, hsp⟩ := spin_some hhand ⟨P.fr[0], List.getElem_mem hpos, F.h0 _ (List.getElem_mem hpos)⟩
        obtain ⟨c1, c2, _, _⟩ := spin_core hsp hhand
        refine ⟨k, { P with fr := fr', hand := hd, losses := P.losses + 1 }, ?_, ?_, c1⟩
        · unfold PS.place
          rw [hfi]; simp only; rw [if_neg hheld, hsp]
        · have := congrArg List.length c1
          rw [List.length_map, List.length_map] at this
          show k < fr'.length; omega
    refine ⟨P'.take k s i g, by simp [PS.hold, ha, hp], ?_, fun g' hg hgi => ?_, k, ⟨_, List.getElem?_set_self hkn, rfl, rfl, rfl, rfl⟩, fun j g hj hg => ?_⟩
    · have := congrArg List.length hcore
      rw [List.length_map, List.length_map, F.len] at this
      show (P'.fr.set k _).length = n
      rw [List.length_set]; exact this
    · rcases List.mem_or_eq_of_mem_set hg with hg | rfl
      · obtain ⟨g0, hg0, he⟩ := core_mem hcore hg
        simp only [core, Prod.mk.injEq] at he
        obtain ⟨e1, e2, e3, _, e5⟩ := he
        rw [e1, e2, e3]
        exact F.own g0 hg0 (by rw [← e5]; exact hgi)
      · exact ⟨rfl, i, hi, rfl, h0⟩
    · rcases set_at hg with ⟨rfl, _⟩ | ⟨_, hg⟩
      · exact absurd rfl hj
      · obtain ⟨g0, hg0, he⟩ := get_core hcore hg
        simp only [core, Prod.mk.injEq] at he
        rw [he.2.2.2.1]; exact F.h0 g0 (List.mem_of_getElem? hg0)
theorem HeldB.free (H : HeldB gs r s n i P) (ok : P.ok) : ∃ P2, P.free s (i : Int) = (0, P2) ∧ FreeB gs r s n P2 := by
  obtain ⟨k, K⟩ := H.kp
  obtain ⟨f, hf, h1, h2, h3, h4⟩ := K.me
  refine ⟨{ P with fr := P.fr.set k { f with held := f.held - 1 } }, ?_, by simp only [List.length_set]; exact H.len, fun g hg hgi => ?_, fun g hg => ?_⟩
  · simp only [PS.free, K.has ok, hf]
    rw [if_neg (by omega)]
  · rcases List.mem_or_eq_of_mem_set hg with hg | rfl
    · exact H.own g hg hgi
    · exact H.own f (List.mem_of_getElem? hf) h1
  · obtain ⟨j, hj⟩ := List.getElem?_of_mem hg
    rcases set_at hj with ⟨rfl, rfl⟩ | ⟨hne, hj⟩
    · show f.held - 1 = 0; omega
    · exact K.other j g hne hj
/-- A pool of one frame, in which a page is held by somebody else so often. -/
def OneP (s : Bs) (o : Nat) (l : List Ent) (m : Nat) (P : PS) : Prop := ∃ f : Fr, P.fr = [f] ∧ f.is = true ∧ f.name = s ∧ f.i = (o : Nat) ∧ f.l = l ∧ f.held = m
theorem OneP.at {o m : Nat} {l : List Ent} (O : OneP s o l m P) (i : Nat) : P.at s (i : Nat) = if i = o then some 0 else none := by
  obtain ⟨f, hf, h1, h2, h3, h4, h5⟩ := O
  unfold PS.at
  rw [hf, List.findIdx?_cons]
  unfold Fr.at
  rw [h1, h2, h3]
  by_cases hi : i = o
  · subst hi; simp
  · have : ¬ (o : Int) = (i : Int) := by omega
    simp [hi, this]
theorem OneP.held {o m : Nat} {l : List Ent} (O : OneP s o l (m + 1) P) : P.held = 1 := by
  obtain ⟨f, hf, h1, h2, h3, h4, h5⟩ := O
  unfold PS.held
  rw [hf]; simp [h5]
theorem OneP.hold {o m : Nat} {l : List Ent} (O : OneP s o l m P) (x : Int × List Ent) : ∃ P1, P.hold s (o : Nat) x = (0, l, P1) ∧ OneP s o l (m + 1) P1 := by
  have ha := O.at o
  rw [if_pos rfl] at ha
  obtain ⟨f, hf, h1, h2, h3, h4, h5⟩ := O
  refine ⟨{ P with fr := up P.fr 0 fun f => { f with held := f.held + 1, mark := true }, hits := P.hits + 1 }, ?_, { f with held := f.held + 1, mark := true }, ?_, h1, h2, h3, h4, by simp [h5]⟩
  · simp only [PS.hold, ha, hf, List.getElem?_cons_zero, h4]
  · simp [up, hf]
theorem OneP.free {o m : Nat} {l : List Ent} (O : OneP s o l (m + 1) P) : ∃ P1, P.free s (o : Nat) = (0, P1) ∧ OneP s o l m P1 := by
  have ha := O.at o
  rw [if_pos rfl] at ha
  obtain ⟨f, hf, h1, h2, h3, h4, h5⟩ := O
  refine ⟨{ P with fr := P.fr.set 0 { f with held := f.held - 1 } }, ?_, { f with held := f.held - 1 }, by simp [hf], h1, h2, h3, h4, by simp [h5]⟩
  simp only [PS.free, ha, hf, List.getElem?_cons_zero]
  rw [if_neg (by omega)]
theorem OneP.full {o m i : Nat} {l g : List Ent} (O : OneP s o l (m + 1) P) (hi : i ≠ o) : P.hold s (i : Nat) (0, g) = (90, [], P) := by
  have ha := O.at i
  rw [if_neg hi] at ha
  have hh := O.held
  obtain ⟨f, hf, h1, h2, h3, h4, h5⟩ := O
  refine hold_full ha (fun f' hf' => ?_) ?_
  · rw [hf] at hf'; simp at hf'; rw [hf']; exact h1
  · rw [hh, hf]; rfl
end
end Go.Cur

/- A pool of which pages are held by many: the plain law. -/
namespace Go.Pool
open Go.Ent
set_option linter.unusedVariables false
set_option linter.unusedSimpArgs false
/-- A file's name, and a page's number. -/
abbrev Pg := Bs × Nat
/-- How many unlike ones. -/
def dist : List Pg → Nat
  | [] => 0
  | x :: xs => if x ∈ xs then dist xs else dist xs + 1
/-- A pool whose pages are the files', and of which so many are held. -/
structure HP (fl : Bs → Nat → Int × List Ent) (n : Nat) (H : List Pg) (P : PS) : Prop where
  len : P.fr.length = n
  own : ∀ f ∈ P.fr, f.is = true → ∃ j : Nat, f.i = (j : Nat) ∧ fl f.name j = (0, f.l)
  held : ∀ f ∈ P.fr, f.is = true → ∀ j : Nat, f.i = (j : Nat) → f.held = H.count (f.name, j)
  off : ∀ f ∈ P.fr, f.is = false → f.held = 0
  has : ∀ x ∈ H, ∃ f ∈ P.fr, f.is = true ∧ f.name = x.1 ∧ f.i = (x.2 : Nat)
  cnt : P.held = dist H
section
variable {fl : Bs → Nat → Int × List Ent} {n : Nat} {H H' : List Pg} {P : PS} {s : Bs} {i : Nat}
theorem hp_new : HP fl n [] (newP n) := by
  have hm : ∀ f ∈ (newP n).fr, f = Fr.none := fun f hf => List.eq_of_mem_replicate hf
  refine ⟨by simp [newP], fun f hf hi => by (rw [hm f hf] at hi; cases hi), fun f hf hi => by (rw [hm f hf] at hi; cases hi), fun f hf _ => by rw [hm f hf]; rfl, fun x hx => by simp at hx, ?_⟩
  exact List.countP_eq_zero.2 fun f hf => by rw [hm f hf]; decide
theorem HP.at (A : HP fl n H P) (ok : P.ok) (hx : (s, i) ∈ H) : ∃ k f, P.at s (i : Nat) = some k ∧ P.fr[k]? = some f ∧ f.is = true ∧ f.name = s ∧ f.i = (i : Nat) ∧ f.held = H.count (s, i) ∧ fl s i = (0, f.l) := by
  obtain ⟨f, hf, h1, h2, h3⟩ := A.has _ hx
  obtain ⟨k, hk⟩ := List.getElem?_of_mem hf
  obtain ⟨j, hj, hl⟩ := A.own f hf h1
  have hij : j = i := by
    have h3 : f.i = (i : Nat) := h3
    omega
  subst hij
  have h2 : f.name = s := h2
  refine ⟨k, f, at_some ok hk h1 h2 hj, hk, h1, h2, hj, ?_, by rw [← h2]; exact hl⟩
  rw [A.held f hf h1 j hj, h2]
/-- A page that is at hand is held once more. -/
theorem HP.hold_at (A : HP fl n H P) (ok : P.ok) {k : Nat} {x : Int × List Ent} (ha : P.at s (i : Nat) = some k) : ∃ P1 l, fl s i = (0, l) ∧ P.hold s (i : Nat) x = (0, l, P1) ∧ HP fl n ((s, i) :: H) P1 := by
  obtain ⟨f, hf, his, hfn, hfi⟩ := of_at ha
  have hfm := List.mem_of_getElem? hf
  have hk := (List.getElem?_eq_some_iff.1 hf).1
  obtain ⟨j, hj, hl⟩ := A.own f hfm his
  have hij : j = i := by omega
  subst hij
  rw [hfn] at hl
  have hheld := A.held f hfm his j hj
  rw [hfn] at hheld
  let f' : Fr := { f with held := f.held + 1, mark := true }
  have hcnt := countP_set (q := fun f : Fr => decide (0 < f.held)) (b := f') hf
  rw [if_pos (show decide (0 < f'.held) = true by simp [f'])] at hcnt
  refine ⟨{ P with fr := P.fr.set k f', hits := P.hits + 1 }, f.l, hl, by simp only [PS.hold, ha, hf, up]; rfl, ?_, ?_, ?_, ?_, ?_, ?_⟩
  · simp only [List.length_set]; exact A.len
  · intro g hg hgi
    rcases List.mem_or_eq_of_mem_set hg with hg | rfl
    · exact A.own g hg hgi
    · exact ⟨j, hj, by rw [show f'.name = s from hfn]; exact hl⟩
  · intro g hg hgi m hm
    obtain ⟨a, ha'⟩ := List.getElem?_of_mem hg
    rcases set_at ha' with ⟨rfl, rfl⟩ | ⟨hne, hg'⟩
    · have : m = j := by have : f'.i = f.i := rfl; omega
      subst this
      rw [show f'.name = s from hfn, List.count_cons_self, ← hheld]
    · rw [A.held g (List.mem_of_getElem? hg') hgi m hm, List.count_cons_of_ne]
      intro he
      cases he
      exact hne (ok.one a k g f hg' hf hgi his (by rw [hfn]) (by rw [hm, hj]))
  · intro g hg hgi
    rcases List.mem_or_eq_of_mem_set hg with hg | rfl
    · exact A.off g hg hgi
    · rw [show f'.is = f.is from rfl, his] at hgi; cases hgi
  · have keep : ∀ g0 ∈ P.fr, ∃ g ∈ P.fr.set k f', g.is = g0.is ∧ g.name = g0.name ∧ g.i = g0.i := fun g0 hg0 => by
      obtain ⟨a, ha'⟩ := List.getElem?_of_mem hg0
      by_cases hak : a = k
      · subst hak
        rw [hf] at ha'; cases ha'
        exact ⟨f', List.mem_of_getElem? (List.getElem?_set_self hk), rfl, rfl, rfl⟩
      · exact ⟨g0, List.mem_of_getElem? (by rw [List.getElem?_set, if_neg (Ne.symm hak)]; exact ha'), rfl, rfl, rfl⟩
    intro y hy
    rcases List.mem_cons.1 hy with rfl | hy
    · obtain ⟨g, hg, e1, e2, e3⟩ := keep f hfm
      exact ⟨g, hg, by rw [e1]; exact his, by rw [e2]; exact hfn, by rw [e3]; exact hj⟩
    · obtain ⟨g0, hg0, h1, h2, h3⟩ := A.has y hy
      obtain ⟨g, hg, e1, e2, e3⟩ := keep g0 hg0
      exact ⟨g, hg, by rw [e1]; exact h1, by rw [e2]; exact h2, by rw [e3]; exact h3⟩
  · have h0 : P.held = dist H := A.cnt
    unfold PS.held at h0 ⊢
    simp only [dist]
    by_cases hx : (s, j) ∈ H
    · rw [if_pos hx]
      have : 0 < f.held := by rw [hheld]; exact List.count_pos_iff.2 hx
      rw [if_pos (decide_eq_true this)] at hcnt
      omega
    · rw [if_neg hx]
      have : f.held = 0 := by rw [hheld]; exact List.count_eq_zero.2 hx
      rw [if_neg (by simp [this])] at hcnt
      omega
/-- A frame is found where not all are held. -/
theorem HP.room (A : HP fl n H P) (ok : P.ok) (hn : dist H < n) : ∃ k P', P.place = some (k, P') ∧ k < P'.fr.length ∧ P'.fr.map core = P.fr.map core ∧ ∀ f, P'.fr[k]? = some f → f.held = 0 := by
  have hheld : P.held ≠ P.fr.length := by rw [A.cnt, A.len]; omega
  cases hfi : P.fr.findIdx? (fun f => !f.is) with
  | some k =>
    rw [List.findIdx?_eq_some_iff_getElem] at hfi
    obtain ⟨hl, h1, h2⟩ := hfi
    refine ⟨k, P, ?_, hl, rfl, fun f hf => ?_⟩
    · unfold PS.place
      rw [List.findIdx?_eq_some_iff_getElem.2 ⟨hl, h1, h2⟩]
    · rw [List.getElem?_eq_getElem hl] at hf
      cases hf
      exact A.off _ (List.getElem_mem hl) (by simpa using h1)
  | none =>
    have hpos : 0 < P.fr.length := by rw [A.len]; omega
    have hhand : P.hand < P.fr.length := by rcases ok.hand with h | h <;> omega
    have hex : ∃ f ∈ P.fr, f.held = 0 := by
      apply Classical.byContradiction
      intro hc
      refine hheld ?_
      exact List.countP_eq_length.2 fun f hf => by
        have : f.held ≠ 0 := fun h0 => hc ⟨f, hf, h0⟩
        simp; omega
    obtain ⟨⟨k, fr', hd⟩, hsp⟩ := spin_some hhand hex
    obtain ⟨c1, c2, _, c4⟩ := spin_core hsp hhand
    refine ⟨k, { P with fr := fr', hand := hd, losses := P.losses + 1 }, ?_, ?_, c1, c4⟩
    · unfold PS.place
      rw [hfi]; simp only; rw [if_neg hheld, hsp]
    · have := congrArg List.length c1
      rw [List.length_map, List.length_map] at this
      show k < fr'.length; omega
theorem held_core {fr fr' : List Fr} (hc : fr'.map core = fr.map core) : fr'.countP (fun f => decide (0 < f.held)) = fr.countP fun f => decide (0 < f.held) := by
  have e : ∀ l : List Fr, l.countP (fun f => decide (0 < f.held)) = (l.map core).countP fun c => decide (0 < c.2.2.2.1) := fun l => by rw [List.countP_map]; rfl
  rw [e, e, hc]
/-- A page is taken in. -/
theorem HP.hold_new (A : HP fl n H P) (ok : P.ok) (hn : dist H < n) {l : List Ent} (ha : P.at s (i : Nat) = none) (hl : fl s i = (0, l)) : ∃ P1, P.hold s (i : Nat) (0, l) = (0, l, P1) ∧ HP fl n ((s, i) :: H) P1 := by
  obtain ⟨k, P', hp, hkn, hcore, hk0⟩ := A.room ok hn
  have hxH : (s, i) ∉ H := fun hx => by
    obtain ⟨k', f, h1, _⟩ := A.at ok hx
    rw [ha] at h1; cases h1
  have hnot : ∀ g ∈ P.fr, g.is = true → ¬ (g.name = s ∧ g.i = (i : Nat)) := fun g hg hgi hc => by
    obtain ⟨a, ha'⟩ := List.getElem?_of_mem hg
    rw [at_some ok ha' hgi hc.1 hc.2] at ha; cases ha
  let nf : Fr := ⟨s, (i : Nat), l, 1, true, true⟩
  have hkf : P'.fr[k]? = some P'.fr[k] := List.getElem?_eq_getElem hkn
  have h0k := hk0 _ hkf
  have hcnt := countP_set (q := fun f : Fr => decide (0 < f.held)) (b := nf) hkf
  rw [if_pos (show decide (0 < nf.held) = true from rfl), if_neg (by simp [h0k])] at hcnt
  have back : ∀ {g : Fr}, g ∈ P'.fr → ∃ g0 ∈ P.fr, g.name = g0.name ∧ g.i = g0.i ∧ g.l = g0.l ∧ g.held = g0.held ∧ g.is = g0.is := fun hg => by
    obtain ⟨g0, hg0, he⟩ := core_mem hcore hg
    simp only [core, Prod.mk.injEq] at he
    exact ⟨g0, hg0, he.1, he.2.1, he.2.2.1, he.2.2.2.1, he.2.2.2.2⟩
  refine ⟨P'.take k s i l, by simp [PS.hold, ha, hp], ?_, ?_, ?_, ?_, ?_, ?_⟩
  · have := congrArg List.length hcore
    rw [List.length_map, List.length_map, A.len] at this
    show (P'.fr.set k _).length = n
    rw [List.length_set]; exact this
  · intro g hg hgi
    rcases List.mem_or_eq_of_mem_set hg with hg | rfl
    · obtain ⟨g0, hg0, e1, e2, e3, _, e5⟩ := back hg
      rw [e1, e2, e3]
      exact A.own g0 hg0 (by rw [← e5]; exact hgi)
    · exact ⟨i, rfl, hl⟩
  · intro g hg hgi m hm
    rcases List.mem_or_eq_of_mem_set hg with hg | rfl
    · obtain ⟨g0, hg0, e1, e2, e3, e4, e5⟩ := back hg
      have hg0i : g0.is = true := by rw [← e5]; exact hgi
      rw [e4, e1, A.held g0 hg0 hg0i m (by rw [← e2]; exact hm), List.count_cons_of_ne]
      intro he
      cases he
      exact hnot g0 hg0 hg0i ⟨rfl, by rw [← e2]; exact hm⟩
    · have : m = i := by
        have : ((i : Nat) : Int) = (m : Nat) := hm
        omega
      subst this
      show 1 = _
      rw [List.count_cons_self, List.count_eq_zero.2 hxH]
  · intro g hg hgi
    rcases List.mem_or_eq_of_mem_set hg with hg | rfl
    · obtain ⟨g0, hg0, e1, e2, e3, e4, e5⟩ := back hg
      rw [e4]; exact A.off g0 hg0 (by rw [← e5]; exact hgi)
    · cases hgi
  · intro y hy
    rcases List.mem_cons.1 hy with rfl | hy
    · exact ⟨nf, List.mem_of_getElem? (List.getElem?_set_self hkn), rfl, rfl, rfl⟩
    · obtain ⟨g0, hg0, h1, h2, h3⟩ := A.has y hy
      obtain ⟨a, ha'⟩ := List.getElem?_of_mem hg0
      obtain ⟨g, hg, he⟩ := get_core hcore.symm ha'
      simp only [core, Prod.mk.injEq] at he
      obtain ⟨e1, e2, e3, e4, e5⟩ := he
      refine ⟨g, List.mem_of_getElem? (i := a) ?_, by rw [← e5]; exact h1, by rw [← e1]; exact h2, by rw [← e2]; exact h3⟩
      show (P'.fr.set k _)[a]? = some g
      rw [List.getElem?_set, if_neg]
      · exact hg
      · intro hka
        subst hka
        have := hk0 g hg
        rw [← e4, A.held g0 hg0 h1 y.2 h3, h2] at this
        exact absurd hy (List.count_eq_zero.1 this)
  · have h0 : P.held = dist H := A.cnt
    have h1 := held_core hcore
    unfold PS.held at h0
    simp only [dist]
    rw [if_neg hxH]
    show (P'.fr.set k nf).countP _ = _
    omega
/-- A page that may be had. -/
theorem HP.hold (A : HP fl n H P) (ok : P.ok) {l : List Ent} (hl : fl s i = (0, l)) (hr : (s, i) ∈ H ∨ dist H < n) : ∃ P1, P.hold s (i : Nat) (0, l) = (0, l, P1) ∧ HP fl n ((s, i) :: H) P1 := by
  cases ha : P.at s (i : Nat) with
  | some k =>
    obtain ⟨P1, l', e1, e2, e3⟩ := A.hold_at (x := (0, l)) ok ha
    rw [hl] at e1
    obtain rfl : l = l' := by simpa using e1
    exact ⟨P1, e2, e3⟩
  | none =>
    rcases hr with hx | hn
    · obtain ⟨k', f, h1, _⟩ := A.at ok hx
      rw [ha] at h1; cases h1
    · exact A.hold_new ok hn ha hl
/-- One that may not. -/
theorem HP.bad (A : HP fl n H P) {x : Int × List Ent} (hl : fl s i = x) (hx : x.1 ≠ 0) : P.hold s (i : Nat) x = (x.1, [], P) := by
  have hat : P.at s (i : Nat) = none := by
    cases ha : P.at s (i : Nat) with
    | none => rfl
    | some k =>
      obtain ⟨f, hf, his, hfn, hfi⟩ := of_at ha
      obtain ⟨j, hj, hl'⟩ := A.own f (List.mem_of_getElem? hf) his
      have hij : j = i := by omega
      subst hij
      rw [hfn, hl] at hl'
      rw [hl'] at hx
      exact absurd rfl hx
  simp only [PS.hold, hat]
  rw [if_pos hx]
/-- Where all frames are held. -/
theorem HP.full (A : HP fl n H P) (ok : P.ok) {l : List Ent} (hx : (s, i) ∉ H) (hn : dist H = n) : P.hold s (i : Nat) (0, l) = (90, [], P) := by
  have hall : ∀ f ∈ P.fr, 0 < f.held := by
    have hc := A.cnt
    rw [hn, ← A.len] at hc
    unfold PS.held at hc
    rw [List.countP_eq_length] at hc
    exact fun f hf => by simpa using hc f hf
  have his : ∀ f ∈ P.fr, f.is = true := fun f hf => by
    cases h : f.is with
    | true => rfl
    | false => have := A.off f hf h; have := hall f hf; omega
  have hat : P.at s (i : Nat) = none := by
    cases ha : P.at s (i : Nat) with
    | none => rfl
    | some k =>
      obtain ⟨f, hf, h1, hfn, hfi⟩ := of_at ha
      have hm := List.mem_of_getElem? hf
      have := A.held f hm h1 i hfi
      rw [hfn, List.count_eq_zero.2 hx] at this
      have := hall f hm; omega
  exact hold_full hat his (by rw [A.cnt, hn, A.len])
/-- One is freed. -/
theorem HP.free (A : HP fl n ((s, i) :: H) P) (ok : P.ok) : ∃ P1, P.free s (i : Nat) = (0, P1) ∧ HP fl n H P1 := by
  obtain ⟨k, f, ha, hf, his, hfn, hfi, hheld, hl⟩ := A.at (s := s) (i := i) ok (by simp)
  have hfm := List.mem_of_getElem? hf
  have hk := (List.getElem?_eq_some_iff.1 hf).1
  rw [List.count_cons_self] at hheld
  let f' : Fr := { f with held := f.held - 1 }
  have hcnt := countP_set (q := fun f : Fr => decide (0 < f.held)) (b := f') hf
  rw [if_pos (show decide (0 < f.held) = true by simp [hheld])] at hcnt
  refine ⟨{ P with fr := P.fr.set k f' }, ?_, ?_, ?_, ?_, ?_, ?_, ?_⟩
  · simp only [PS.free, ha, hf]
    rw [if_neg (by omega)]
  · simp only [List.length_set]; exact A.len
  · intro g hg hgi
    rcases List.mem_or_eq_of_mem_set hg with hg | rfl
    · exact A.own g hg hgi
    · exact ⟨i, hfi, by rw [show f'.name = s from hfn]; exact hl⟩
  · intro g hg hgi m hm
    obtain ⟨a, ha'⟩ := List.getElem?_of_mem hg
    rcases set_at ha' with ⟨rfl, rfl⟩ | ⟨hne, hg'⟩
    · have : m = i := by have : f'.i = f.i := rfl; omega
      subst this
      rw [show f'.name = s from hfn]
      show f.held - 1 = _
      omega
    · rw [A.held g (List.mem_of_getElem? hg') hgi m hm, List.count_cons_of_ne]
      intro he
      cases he
      exact hne (ok.one a k g f hg' hf hgi his (by rw [hfn]) (by rw [hm, hfi]))
  · intro g hg hgi
    rcases List.mem_or_eq_of_mem_set hg with hg | rfl
    · exact A.off g hg hgi
    · rw [show f'.is = f.is from rfl, his] at hgi; cases hgi
  · have keep : ∀ g0 ∈ P.fr, ∃ g ∈ P.fr.set k f', g.is = g0.is ∧ g.name = g0.name ∧ g.i = g0.i := fun g0 hg0 => by
      obtain ⟨a, ha'⟩ := List.getElem?_of_mem hg0
      by_cases hak : a = k
      · subst hak
        rw [hf] at ha'; cases ha'
        exact ⟨f', List.mem_of_getElem? (List.getElem?_set_self hk), rfl, rfl, rfl⟩
      · exact ⟨g0, List.mem_of_getElem? (by rw [List.getElem?_set, if_neg (Ne.symm hak)]; exact ha'), rfl, rfl, rfl⟩
    intro y hy
    obtain ⟨g0, hg0, h1, h2, h3⟩ := A.has y (List.mem_cons_of_mem _ hy)
    obtain ⟨g, hg, e1, e2, e3⟩ := keep g0 hg0
    exact ⟨g, hg, by rw [e1]; exact h1, by rw [e2]; exact h2, by rw [e3]; exact h3⟩
  · have h0 : P.held = dist ((s, i) :: H) := A.cnt
    unfold PS.held at h0 ⊢
    simp only [dist] at h0
    by_cases hx : (s, i) ∈ H
    · rw [if_pos hx] at h0
      have h1 : 0 < f'.held := by
        have := List.count_pos_iff.2 hx
        show 0 < f.held - 1
        omega
      rw [if_pos (decide_eq_true h1)] at hcnt
      show (P.fr.set k f').countP _ = _
      omega
    · rw [if_neg hx] at h0
      have h1 : f'.held = 0 := by
        have := List.count_eq_zero.2 hx
        show f.held - 1 = 0
        omega
      rw [if_neg (by simp [h1])] at hcnt
      show (P.fr.set k f').countP _ = _
      omega
theorem HP.cnt0 (A : HP fl n [] P) : P.held = 0 := A.cnt
end
end Go.Pool

/- A cursor's file: its pages, good or not: the plain law. -/
namespace Go.Cur
open Go.Ent Go.Seg Go.Pool
set_option linter.unusedVariables false
set_option linter.unusedSimpArgs false
/-- The pages of entries. -/
def flG (l : List Ent) (i : Nat) : Int × List Ent := match (packG l)[i]? with | some g => (0, g) | none => (80, [])
section
variable {l : List Ent} {e : Ent} {i k : Nat}
theorem packG_ten (hok : ∀ e ∈ l, entOk e = true) {g : List Ent} (h : (packG l)[i]? = some g) : g.length ≤ 10 := (packAt_some (S := sectors 7 l) (base := 7) (packAt_data hok h)).1
theorem flG_ten (hok : ∀ e ∈ l, entOk e = true) : (flG l i).2.length ≤ 10 := by
  unfold flG
  split
  · rename_i g hg; exact packG_ten hok hg
  · simp
theorem flG_get {g : List Ent} (h : (packG l)[i]? = some g) : flG l i = (0, g) := by unfold flG; rw [h]
theorem heads_len (hok : ∀ e ∈ l, entOk e = true) : (headsG (packG l)).length = (packG l).length := headsG_len fun g hg => (packG_fit hok g hg).1
/-- What a page of the file is. -/
theorem flG_page (hok : ∀ e ∈ l, entOk e = true) (hs : SortedL l) (hi : i < (headsG (packG l)).length) : flG l i = match pageS (sectors 7 l) 7 (headsG (packG l)) i with | some g => (0, g) | none => (80, []) := by
  rw [heads_len hok] at hi
  have hg := List.getElem?_eq_getElem hi
  rw [pageS_sectors hok hs hg, flG_get hg]
/-- From an entry on, of pages that are good. -/
theorem from_good (hok : ∀ e ∈ l, entOk e = true) (hs : SortedL l) {r : Nat → Int} (hr : ∀ i, r i = 0) :
    tailL r ((packG l).drop (findS (headsG (packG l)) e)) (findS (headsG (packG l)) e) = (((packG l).drop (findS (headsG (packG l)) e)).flatten, 0) ∧ fromL ((packG l).drop (findS (headsG (packG l)) e)).flatten e = fromL l e := by
  refine ⟨tail_good fun k _ => hr k, ?_⟩
  have ha := ahead_start (gs := packG l) (e := e) (by rw [packG_flat]; exact hs) fun g hg => (packG_fit hok g hg).1
  have := fromL_skip (b := ((packG l).drop (findS (headsG (packG l)) e)).flatten) ha
  rw [← List.flatten_append, List.take_append_drop, packG_flat] at this
  exact this.symm
end
end Go.Cur
