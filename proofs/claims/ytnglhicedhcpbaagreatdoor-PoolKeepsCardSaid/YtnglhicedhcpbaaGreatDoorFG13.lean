/- Pages that are asked for round and round: the plain law. -/
import Derived.Test.YtnglhicedhcpbaaGreatDoorFG12
namespace Go.Pool
open Go.Ent
set_option linter.unusedVariables false
set_option linter.unusedSimpArgs false
theorem nodup_sub {α : Type} [BEq α] [LawfulBEq α] : ∀ {m l : List α}, m.Nodup → (∀ x ∈ m, x ∈ l) → m.length ≤ l.length
  | [], l, _, _ => Nat.zero_le _
  | a :: m, l, hn, hs => by
    have ha : a ∈ l := hs a (by simp)
    have hn' := List.nodup_cons.1 hn
    have ih := nodup_sub (m := m) (l := l.erase a) hn'.2 fun x hx => by
      have hne : x ≠ a := fun hc => hn'.1 (hc ▸ hx)
      exact (List.mem_erase_of_ne hne).2 (hs x (by simp [hx]))
    rw [List.length_erase_of_mem ha] at ih
    have : 0 < l.length := List.length_pos_of_mem ha
    simp only [List.length_cons]
    omega
theorem countP_set {α : Type} {q : α → Bool} : ∀ {l : List α} {k : Nat} {a b : α}, l[k]? = some a → (l.set k b).countP q + (if q a then 1 else 0) = l.countP q + (if q b then 1 else 0)
  | [], k, a, b, h => by simp at h
  | x :: l, 0, a, b, h => by
    simp only [List.getElem?_cons_zero, Option.some.injEq] at h
    subst h
    simp only [List.set_cons_zero, List.countP_cons]
    omega
  | x :: l, k + 1, a, b, h => by
    simp only [List.getElem?_cons_succ] at h
    have := countP_set (q := q) (b := b) h
    simp only [List.set_cons_succ, List.countP_cons]
    omega
theorem used_core {fr fr' : List Fr} (h : fr'.map core = fr.map core) : fr'.countP (fun f => f.is) = fr.countP (fun f => f.is) := by
  have e : ∀ l : List Fr, l.countP (fun f => f.is) = (l.map core).countP (fun c => c.2.2.2.2) := fun l => by
    rw [List.countP_map]; rfl
  rw [e, e, h]
def isI (fr : List Fr) : List Int := (fr.filter fun f => f.is).map fun f => f.i
theorem isI_len {fr : List Fr} : (isI fr).length = fr.countP fun f => f.is := by
  unfold isI; rw [List.length_map, List.countP_eq_length_filter]
theorem isI_mem {fr : List Fr} {i : Int} : i ∈ isI fr ↔ ∃ f ∈ fr, f.is = true ∧ f.i = i := by
  unfold isI
  simp only [List.mem_map, List.mem_filter]
  exact ⟨fun ⟨f, ⟨h1, h2⟩, h3⟩ => ⟨f, h1, h2, h3⟩, fun ⟨f, h1, h2, h3⟩ => ⟨f, ⟨h1, h2⟩, h3⟩⟩
theorem isI_nodup {P : PS} {s : Bs} (ok : P.ok) (hs : ∀ f ∈ P.fr, f.is = true → f.name = s) : (isI P.fr).Nodup := by
  unfold isI List.Nodup
  rw [List.pairwise_map]
  have h1 : P.fr.Pairwise fun f g => f.is = true → g.is = true → f.i ≠ g.i := by
    rw [List.pairwise_iff_getElem]
    intro a b ha hb hab h1 h2 hc
    have := ok.one a b _ _ (List.getElem?_eq_getElem ha) (List.getElem?_eq_getElem hb) h1 h2 (by rw [hs _ (List.getElem_mem ha) h1, hs _ (List.getElem_mem hb) h2]) hc
    omega
  have h2 := h1.filter (fun f => f.is)
  refine List.Pairwise.imp_of_mem ?_ h2
  intro a b ha hb hab
  exact hab (List.mem_filter.1 ha).2 (List.mem_filter.1 hb).2
/-- How the pool is behind so many pages that were asked for. -/
structure Cir (pg : Nat → List Ent) (s : Bs) (P : PS) (n pages t : Nat) (seen : Nat → Prop) : Prop where
  len : P.fr.length = n
  h0 : ∀ f ∈ P.fr, f.held = 0
  c : ∀ f ∈ P.fr, f.is = true → f.name = s ∧ ∃ j : Nat, j < pages ∧ f.i = (j : Nat) ∧ f.l = pg j
  ok : P.ok
  rd : P.reads = P.used + P.losses
  tt : P.reads + P.hits = t
  ls : P.losses = 0 ∨ P.used = n
  sn : P.losses = 0 → ∀ j, seen j → ∃ f ∈ P.fr, f.is = true ∧ f.i = (j : Nat)
  fw : pages ≤ n → P.losses = 0
section
variable {pg : Nat → List Ent} {s : Bs} {P : PS} {n pages t : Nat} {seen : Nat → Prop}
theorem Cir.less (C : Cir pg s P n pages t seen) {i : Nat} (hi : i < pages) (ha : P.at s i = none) : P.used + 1 ≤ pages := by
  have h1 := isI_nodup C.ok fun f hf hi => (C.c f hf hi).1
  have h0 : ((i : Nat) : Int) ∉ isI P.fr := fun hc => by
    obtain ⟨f, hf, his, hfi⟩ := isI_mem.1 hc
    obtain ⟨k, hk⟩ := List.getElem?_of_mem hf
    exact at_not C.ok ha k f hk his (C.c f hf his).1 hfi
  have h2 := nodup_sub (m := ((i : Nat) : Int) :: isI P.fr) (l := (List.range pages).map fun j => ((j : Nat) : Int)) (List.nodup_cons.2 ⟨h0, h1⟩) fun x hx => by
    rcases List.mem_cons.1 hx with rfl | hx
    · exact List.mem_map.2 ⟨i, List.mem_range.2 hi, rfl⟩
    · obtain ⟨f, hf, hi, rfl⟩ := isI_mem.1 hx
      obtain ⟨_, j, hj, hji, _⟩ := C.c f hf hi
      exact List.mem_map.2 ⟨j, List.mem_range.2 hj, hji.symm⟩
  rw [List.length_cons, isI_len, List.length_map, List.length_range] at h2
  exact h2
theorem Cir.all (C : Cir pg s P n pages t seen) (hs : ∀ j, j < pages → seen j) (h0 : P.losses = 0) : pages ≤ P.used := by
  have hn : ((List.range pages).map fun j => ((j : Nat) : Int)).Nodup := by
    unfold List.Nodup
    rw [List.pairwise_map]
    exact List.Pairwise.imp (fun {a b} (hab : a < b) hc => by omega) (List.pairwise_lt_range (n := pages))
  have h2 := nodup_sub (l := isI P.fr) hn fun x hx => by
    obtain ⟨j, hj, rfl⟩ := List.mem_map.1 hx
    obtain ⟨f, hf, hi, hfi⟩ := C.sn h0 j (hs j (List.mem_range.1 hj))
    exact isI_mem.2 ⟨f, hf, hi, hfi⟩
  rw [isI_len, List.length_map, List.length_range] at h2
  exact h2
theorem used_len : P.used ≤ P.fr.length := List.countP_le_length
/-- A page is held and freed. -/
theorem Cir.step (C : Cir pg s P n pages t seen) (hn : 1 ≤ n) {i : Nat} (hi : i < pages) : ∃ P1, P.hold s i (0, pg i) = (0, pg i, P1) ∧ (P1.ok → ∃ P2, P1.free s i = (0, P2) ∧ (P2.ok → Cir pg s P2 n pages (t + 1) fun j => seen j ∨ j = i)) := by
  cases ha : P.at s i with
  | some k =>
    obtain ⟨f, hf, his, hfn, hfi⟩ := of_at ha
    have hfm := List.mem_of_getElem? hf
    have hk := (List.getElem?_eq_some_iff.1 hf).1
    obtain ⟨_, j, hj, hji, hl⟩ := C.c f hfm his
    have hij : j = i := by rw [hji] at hfi; omega
    subst hij
    refine ⟨{ P with fr := P.fr.set k { f with held := f.held + 1, mark := true }, hits := P.hits + 1 }, by simp only [PS.hold, ha, hf, up, hl], fun ok1 => ?_⟩
    have hk1 : (P.fr.set k { f with held := f.held + 1, mark := true })[k]? = some { f with held := f.held + 1, mark := true } := List.getElem?_set_self hk
    have ha1 := at_some ok1 hk1 his hfn hfi
    refine ⟨{ P with fr := P.fr.set k { f with held := f.held, mark := true }, hits := P.hits + 1 }, ?_, fun ok2 => ?_⟩
    · simp only [PS.free, ha1, hk1]
      rw [if_neg (by omega)]
      simp only [List.set_set, Nat.add_sub_cancel]
    · have hu : PS.used { P with fr := P.fr.set k { f with held := f.held, mark := true }, hits := P.hits + 1 } = P.used := by
        have := countP_set (q := fun f : Fr => f.is) (b := { f with held := f.held, mark := true }) hf
        rw [if_pos his] at this
        exact Nat.add_right_cancel this
      refine ⟨by simp only [List.length_set]; exact C.len, fun g hg => ?_, fun g hg hgi => ?_, ok2, by rw [hu]; exact C.rd, by have := C.tt; simp only; omega, by rw [hu]; exact C.ls, fun hl0 m hm => ?_, C.fw⟩
      · rcases List.mem_or_eq_of_mem_set hg with hg | rfl
        · exact C.h0 g hg
        · exact C.h0 f hfm
      · rcases List.mem_or_eq_of_mem_set hg with hg | rfl
        · exact C.c g hg hgi
        · exact C.c f hfm his
      · have key : ∀ m : Nat, (∃ g ∈ P.fr, g.is = true ∧ g.i = (m : Nat)) → ∃ g ∈ P.fr.set k { f with held := f.held, mark := true }, g.is = true ∧ g.i = (m : Nat) := fun m ⟨g, hg, h1, h2⟩ => by
          obtain ⟨k2, hk2⟩ := List.getElem?_of_mem hg
          by_cases hkk : k2 = k
          · subst hkk
            rw [hf] at hk2; cases hk2
            exact ⟨_, List.mem_of_getElem? (List.getElem?_set_self hk), h1, h2⟩
          · exact ⟨g, List.mem_of_getElem? (i := k2) (by rw [List.getElem?_set, if_neg (fun hc => hkk hc.symm)]; exact hk2), h1, h2⟩
        rcases hm with hm | rfl
        · exact key m (C.sn hl0 m hm)
        · exact key m ⟨f, hfm, his, hfi⟩
  | none =>
    have hless := C.less hi ha
    have hheld : P.held ≠ P.fr.length := by
      have : P.held = 0 := List.countP_eq_zero.2 fun f hf => by simp [C.h0 f hf]
      rw [this, C.len]; omega
    -- where it is taken in
    obtain ⟨k, P', hp⟩ : ∃ k P', P.place = some (k, P') ∧ k < n ∧ P'.fr.map core = P.fr.map core ∧ P'.hits = P.hits ∧ P'.reads = P.reads ∧
        ((∃ f, P'.fr[k]? = some f ∧ f.is = false ∧ P'.losses = P.losses) ∨ ((∀ f ∈ P'.fr, f.is = true) ∧ P'.losses = P.losses + 1)) := by
      cases hfi : P.fr.findIdx? (fun f => !f.is) with
      | some k =>
        rw [List.findIdx?_eq_some_iff_getElem] at hfi
        obtain ⟨hl, h1, h2⟩ := hfi
        refine ⟨k, P, ?_, by rw [← C.len]; exact hl, rfl, rfl, rfl, .inl ⟨_, List.getElem?_eq_getElem hl, by simpa using h1, rfl⟩⟩
        unfold PS.place
        rw [List.findIdx?_eq_some_iff_getElem.2 ⟨hl, h1, h2⟩]
      | none =>
        have hfull : ∀ f ∈ P.fr, f.is = true := fun f hf => by simpa using (List.findIdx?_eq_none_iff.1 hfi) f hf
        have hpos : 0 < P.fr.length := by rw [C.len]; omega
        have hhand : P.hand < P.fr.length := by rcases C.ok.hand with h | h <;> omega
        obtain ⟨⟨k, fr', hd⟩, hsp⟩ := spin_some hhand ⟨P.fr[0], List.getElem_mem hpos, C.h0 _ (List.getElem_mem hpos)⟩
        obtain ⟨c1, c2, _, _⟩ := spin_core hsp hhand
        refine ⟨k, { P with fr := fr', hand := hd, losses := P.losses + 1 }, ?_, by rw [← C.len]; exact c2, c1, rfl, rfl, .inr ⟨fun f hf => ?_, rfl⟩⟩
        · unfold PS.place
          rw [hfi]; simp only; rw [if_neg hheld, hsp]
        · obtain ⟨g, hg, he⟩ := core_mem c1 hf
          simp only [core, Prod.mk.injEq] at he
          rw [he.2.2.2.2]; exact hfull g hg
    obtain ⟨hp, hkn, hcore, ph, pr, hcase⟩ := hp
    have hlen : P'.fr.length = n := by
      have := congrArg List.length hcore
      rw [List.length_map, List.length_map, C.len] at this; exact this
    have hk : k < P'.fr.length := by omega
    refine ⟨P'.take k s i (pg i), by simp [PS.hold, ha, hp], fun ok1 => ?_⟩
    have hk1 : (P'.take k s i (pg i)).fr[k]? = some ⟨s, i, pg i, 1, true, true⟩ := List.getElem?_set_self hk
    have ha1 := at_some ok1 hk1 rfl rfl rfl
    refine ⟨{ P' with fr := P'.fr.set k ⟨s, i, pg i, 0, true, true⟩, reads := P'.reads + 1 }, ?_, fun ok2 => ?_⟩
    · simp only [PS.free, ha1, hk1]
      rw [if_neg (by omega)]
      simp only [PS.take, List.set_set]
    · obtain ⟨f, hf⟩ : ∃ f, P'.fr[k]? = some f := ⟨_, List.getElem?_eq_getElem hk⟩
      have hcu := countP_set (q := fun f : Fr => f.is) (b := (⟨s, i, pg i, 0, true, true⟩ : Fr)) hf
      have hu0 : P'.fr.countP (fun f => f.is) = P.used := used_core hcore
      have hset : ∀ g ∈ P'.fr.set k ⟨s, i, pg i, 0, true, true⟩, g = ⟨s, i, pg i, 0, true, true⟩ ∨ ∃ g0 ∈ P.fr, core g = core g0 := fun g hg => by
        rcases List.mem_or_eq_of_mem_set hg with hg | rfl
        · exact .inr (core_mem hcore hg)
        · exact .inl rfl
      have hl := C.ls
      have hrd := C.rd
      have htt := C.tt
      have hul := used_len (P := P)
      rw [C.len] at hul
      have hnew : (⟨s, i, pg i, 0, true, true⟩ : Fr) ∈ P'.fr.set k ⟨s, i, pg i, 0, true, true⟩ := List.mem_of_getElem? (List.getElem?_set_self hk)
      have hu2 : PS.used { P' with fr := P'.fr.set k ⟨s, i, pg i, 0, true, true⟩, reads := P'.reads + 1 } = (P'.fr.set k ⟨s, i, pg i, 0, true, true⟩).countP fun f => f.is := rfl
      rcases hcase with ⟨f2, hf2, hfi, hlo⟩ | ⟨hfull, hlo⟩
      · rw [hf] at hf2; cases hf2
        simp only [hfi, Bool.false_eq_true, if_false, if_true, Nat.add_zero] at hcu
        have hlt : P.used < n := by
          have h3 : P'.fr.countP (fun f => f.is) < P'.fr.length := by
            rcases Nat.lt_or_ge (P'.fr.countP fun f => f.is) P'.fr.length with h | h
            · exact h
            · exfalso
              have := List.countP_eq_length.1 (Nat.le_antisymm List.countP_le_length h) f (List.mem_of_getElem? hf)
              rw [hfi] at this; cases this
          omega
        have hl0 : P.losses = 0 := by rcases hl with h | h <;> omega
        refine ⟨by simp only [List.length_set]; exact hlen, fun g hg => ?_, fun g hg hgi => ?_, ok2, by rw [hu2]; show P'.reads + 1 = _ + P'.losses; omega, by show P'.reads + 1 + P'.hits = t + 1; omega, .inl (by show P'.losses = 0; omega), fun _ m hm => ?_, fun _ => by show P'.losses = 0; omega⟩
        · rcases hset g hg with rfl | ⟨g0, hg0, he⟩
          · rfl
          · simp only [core, Prod.mk.injEq] at he
            rw [he.2.2.2.1]; exact C.h0 g0 hg0
        · rcases hset g hg with rfl | ⟨g0, hg0, he⟩
          · exact ⟨rfl, i, hi, rfl, rfl⟩
          · simp only [core, Prod.mk.injEq] at he
            obtain ⟨e1, e2, e3, _, e5⟩ := he
            rw [e1, e2, e3]
            exact C.c g0 hg0 (by rw [← e5]; exact hgi)
        · rcases hm with hm | rfl
          · obtain ⟨g, hg, h1, h2⟩ := C.sn hl0 m hm
            obtain ⟨k2, hk2⟩ := List.getElem?_of_mem hg
            have hc2 : (P'.fr.map core)[k2]? = (P.fr.map core)[k2]? := by rw [hcore]
            rw [List.getElem?_map, List.getElem?_map, hk2] at hc2
            cases hg2 : P'.fr[k2]? with
            | none => rw [hg2] at hc2; cases hc2
            | some g2 =>
              rw [hg2] at hc2
              simp only [Option.map_some, Option.some.injEq, core, Prod.mk.injEq] at hc2
              have hne : k2 ≠ k := by
                rintro rfl
                rw [hf] at hg2; cases hg2
                rw [hc2.2.2.2.2, h1] at hfi; cases hfi
              exact ⟨g2, List.mem_of_getElem? (i := k2) (by simp only; rw [List.getElem?_set, if_neg (fun hc => hne hc.symm)]; exact hg2), by rw [hc2.2.2.2.2]; exact h1, by rw [hc2.2.1]; exact h2⟩
          · exact ⟨_, hnew, rfl, rfl⟩
      · have hfi : f.is = true := hfull f (List.mem_of_getElem? hf)
        simp only [hfi, if_true] at hcu
        have hun : P.used = n := by
          rw [← hu0, List.countP_eq_length.2 hfull, hlen]
        refine ⟨by simp only [List.length_set]; exact hlen, fun g hg => ?_, fun g hg hgi => ?_, ok2, by rw [hu2]; show P'.reads + 1 = _ + P'.losses; omega, by show P'.reads + 1 + P'.hits = t + 1; omega, .inr (by rw [hu2]; omega), fun h0 => by have : P'.losses = 0 := h0; omega, fun hc => by omega⟩
        · rcases hset g hg with rfl | ⟨g0, hg0, he⟩
          · rfl
          · simp only [core, Prod.mk.injEq] at he
            rw [he.2.2.2.1]; exact C.h0 g0 hg0
        · rcases hset g hg with rfl | ⟨g0, hg0, he⟩
          · exact ⟨rfl, i, hi, rfl, rfl⟩
          · simp only [core, Prod.mk.injEq] at he
            obtain ⟨e1, e2, e3, _, e5⟩ := he
            rw [e1, e2, e3]
            exact C.c g0 hg0 (by rw [← e5]; exact hgi)
end
end Go.Pool

/- What is held stays at hand: the plain law. -/
namespace Go.Pool
open Go.Ent
set_option linter.unusedVariables false
set_option linter.unusedSimpArgs false
/-- One frame is held, once. -/
structure Kp (s : Bs) (i : Int) (P : PS) (k : Nat) : Prop where
  me : ∃ f, P.fr[k]? = some f ∧ f.is = true ∧ f.name = s ∧ f.i = i ∧ f.held = 1
  other : ∀ (j : Nat) (g : Fr), j ≠ k → P.fr[j]? = some g → g.held = 0
section
variable {s : Bs} {i : Int} {P : PS} {k : Nat}
theorem Kp.held (K : Kp s i P k) : P.held = 1 := by
  obtain ⟨f, hf, _, _, _, h1⟩ := K.me
  have h0 : (P.fr.set k Fr.none).countP (fun f => decide (0 < f.held)) = 0 := List.countP_eq_zero.2 fun g hg => by
    obtain ⟨j, hj⟩ := List.getElem?_of_mem hg
    rcases set_at hj with ⟨rfl, rfl⟩ | ⟨hne, hj⟩
    · simp [Fr.none]
    · simp [K.other j g hne hj]
  have := countP_set (q := fun f : Fr => decide (0 < f.held)) (b := Fr.none) hf
  rw [h0, if_pos (by simp [h1]), if_neg (by simp [Fr.none])] at this
  unfold PS.held
  omega
theorem Kp.has (K : Kp s i P k) (ok : P.ok) : P.at s i = some k := by
  obtain ⟨f, hf, h1, h2, h3, _⟩ := K.me
  exact at_some ok hf h1 h2 h3
/-- It is freed. -/
theorem Kp.free (K : Kp s i P k) (ok : P.ok) : ∃ P2, P.free s i = (0, P2) ∧ P2.held = 0 := by
  obtain ⟨f, hf, h1, h2, h3, h4⟩ := K.me
  have hk := (List.getElem?_eq_some_iff.1 hf).1
  refine ⟨{ P with fr := P.fr.set k { f with held := f.held - 1 } }, ?_, ?_⟩
  · simp only [PS.free, K.has ok, hf]
    rw [if_neg (by omega)]
  · refine List.countP_eq_zero.2 fun g hg => ?_
    obtain ⟨j, hj⟩ := List.getElem?_of_mem hg
    rcases set_at hj with ⟨rfl, rfl⟩ | ⟨hne, hj⟩
    · simp [h4]
    · simp [K.other j g hne hj]
theorem get_core {fr fr' : List Fr} (h : fr'.map core = fr.map core) {j : Nat} {g : Fr} (hg : fr'[j]? = some g) : ∃ g0, fr[j]? = some g0 ∧ core g = core g0 := by
  have : (fr'.map core)[j]? = (fr.map core)[j]? := by rw [h]
  rw [List.getElem?_map, hg, List.getElem?_map] at this
  cases hg0 : fr[j]? with
  | none => rw [hg0] at this; cases this
  | some g0 =>
    rw [hg0] at this
    simp only [Option.map_some, Option.some.injEq] at this
    exact ⟨g0, rfl, this⟩
/-- Another page is held and freed. -/
theorem Kp.step (K : Kp s i P k) (ok : P.ok) {s' : Bs} {i' : Int} {r : Int × List Ent} : ((P.hold s' i' r).1 ≠ 0 → (P.hold s' i' r).2.2 = P) ∧
    ((P.hold s' i' r).1 = 0 → (P.hold s' i' r).2.2.ok → ∃ P2, (P.hold s' i' r).2.2.free s' i' = (0, P2) ∧ Kp s i P2 k) := by
  obtain ⟨f, hf, h1, h2, h3, h4⟩ := K.me
  have hk := (List.getElem?_eq_some_iff.1 hf).1
  cases ha : P.at s' i' with
  | some k2 =>
    obtain ⟨f2, hf2, g1, g2, g3⟩ := of_at ha
    have hk2 := (List.getElem?_eq_some_iff.1 hf2).1
    have e : P.hold s' i' r = (0, f2.l, { P with fr := P.fr.set k2 { f2 with held := f2.held + 1, mark := true }, hits := P.hits + 1 }) := by simp only [PS.hold, ha, hf2, up]
    rw [e]
    refine ⟨fun hc => absurd rfl hc, fun _ ok1 => ?_⟩
    have hk1 : (P.fr.set k2 { f2 with held := f2.held + 1, mark := true })[k2]? = some { f2 with held := f2.held + 1, mark := true } := List.getElem?_set_self hk2
    have ha1 := at_some ok1 hk1 g1 g2 g3
    refine ⟨{ P with fr := P.fr.set k2 { f2 with held := f2.held, mark := true }, hits := P.hits + 1 }, ?_, ?_, ?_⟩
    · simp only [PS.free, ha1, hk1]
      rw [if_neg (by omega)]
      simp only [List.set_set, Nat.add_sub_cancel]
    · by_cases hkk : k2 = k
      · subst hkk
        rw [hf] at hf2; cases hf2
        exact ⟨_, List.getElem?_set_self hk, h1, h2, h3, h4⟩
      · exact ⟨f, by simp only; rw [List.getElem?_set, if_neg hkk]; exact hf, h1, h2, h3, h4⟩
    · intro j g hj hg
      rcases set_at hg with ⟨rfl, rfl⟩ | ⟨_, hg⟩
      · exact K.other j f2 hj hf2
      · exact K.other j g hj hg
  | none =>
    by_cases hr : r.1 ≠ 0
    · have e : P.hold s' i' r = (r.1, [], P) := by simp only [PS.hold, ha]; rw [if_pos hr]
      rw [e]
      exact ⟨fun _ => rfl, fun hc => absurd hc hr⟩
    · have hr : r.1 = 0 := Decidable.not_not.1 hr
      cases hp : P.place with
      | none =>
        have e : P.hold s' i' r = (90, [], P) := by simp [PS.hold, ha, hr, hp]
        rw [e]
        exact ⟨fun _ => rfl, fun hc => absurd hc (by simp)⟩
      | some kp =>
        obtain ⟨k2, P'⟩ := kp
        have e : P.hold s' i' r = (0, r.2, P'.take k2 s' i' r.2) := by simp [PS.hold, ha, hr, hp]
        rw [e]
        refine ⟨fun hc => absurd rfl hc, fun _ ok1 => ?_⟩
        obtain ⟨hcore, _, _, _⟩ := place_core hp ok.hand
        have hlen : P'.fr.length = P.fr.length := by
          have := congrArg List.length hcore
          rw [List.length_map, List.length_map] at this; exact this
        -- it is another frame
        have hk2 : k2 ≠ k ∧ k2 < P.fr.length := by
          unfold PS.place at hp
          split at hp
          · rename_i k3 hfi
            cases hp
            rw [List.findIdx?_eq_some_iff_getElem] at hfi
            obtain ⟨hl, hi, _⟩ := hfi
            refine ⟨?_, hl⟩
            rintro rfl
            rw [List.getElem?_eq_getElem hl] at hf
            have := Option.some.inj hf
            rw [this, h1] at hi; cases hi
          · split at hp
            · cases hp
            · split at hp
              · rename_i k3 fr3 hd3 hsp
                cases hp
                have hhand : P.hand < P.fr.length := by rcases ok.hand with h | h <;> omega
                obtain ⟨c1, c2, _, c4⟩ := spin_core hsp hhand
                refine ⟨?_, c2⟩
                rintro rfl
                obtain ⟨g, hg⟩ : ∃ g, fr3[k2]? = some g := ⟨_, List.getElem?_eq_getElem (by rw [hlen]; exact c2)⟩
                obtain ⟨g0, hg0, he⟩ := get_core c1 hg
                rw [hf] at hg0; cases hg0
                have := c4 g hg
                simp only [core, Prod.mk.injEq] at he
                omega
              · cases hp
        have hk2l : k2 < P'.fr.length := by omega
        have hk1 : (P'.take k2 s' i' r.2).fr[k2]? = some ⟨s', i', r.2, 1, true, true⟩ := List.getElem?_set_self hk2l
        have ha1 := at_some ok1 hk1 rfl rfl rfl
        refine ⟨{ P' with fr := P'.fr.set k2 ⟨s', i', r.2, 0, true, true⟩, reads := P'.reads + 1 }, ?_, ?_, ?_⟩
        · simp only [PS.free, ha1, hk1]
          rw [if_neg (by omega)]
          simp only [PS.take, List.set_set]
        · obtain ⟨f', hf'⟩ : ∃ f', P'.fr[k]? = some f' := ⟨_, List.getElem?_eq_getElem (by rw [hlen]; exact hk)⟩
          obtain ⟨g0, hg0, he⟩ := get_core hcore hf'
          rw [hf] at hg0; cases hg0
          simp only [core, Prod.mk.injEq] at he
          exact ⟨f', by simp only; rw [List.getElem?_set, if_neg hk2.1]; exact hf', by rw [he.2.2.2.2]; exact h1, by rw [he.1]; exact h2, by rw [he.2.1]; exact h3, by rw [he.2.2.2.1]; exact h4⟩
        · intro j g hj hg
          rcases set_at hg with ⟨rfl, rfl⟩ | ⟨_, hg⟩
          · rfl
          · obtain ⟨g0, hg0, he⟩ := get_core hcore hg
            simp only [core, Prod.mk.injEq] at he
            rw [he.2.2.2.1]; exact K.other j g0 hj hg0
theorem Kp.drop (K : Kp s i P k) {s' : Bs} : Kp s i (P.drop s').2 k := by
  obtain ⟨f, hf, h1, h2, h3, h4⟩ := K.me
  refine ⟨⟨f, ?_, h1, h2, h3, h4⟩, fun j g hj hg => ?_⟩
  · unfold PS.drop
    simp only [List.getElem?_map, hf, Option.map_some]
    rw [if_neg (by simp [gone, h4])]
  · unfold PS.drop at hg
    simp only [List.getElem?_map] at hg
    cases hg0 : P.fr[j]? with
    | none => rw [hg0] at hg; cases hg
    | some g0 =>
      rw [hg0] at hg
      simp only [Option.map_some, Option.some.injEq] at hg
      subst hg
      split
      · rfl
      · exact K.other j g0 hj hg0
/-- The first page of a new pool. -/
theorem kp_new {n : Nat} (hn : 1 ≤ n) {l : List Ent} : ∃ P1, (newP n).hold s i (0, l) = (0, l, P1) ∧ Kp s i P1 0 := by
  have hat : (newP n).at s i = none := at_none fun f hf hi => by
    have : f = Fr.none := List.eq_of_mem_replicate hf
    rw [this] at hi; cases hi
  have hlen : (newP n).fr.length = n := by simp [newP]
  have hfi : (newP n).fr.findIdx? (fun f => !f.is) = some 0 := by
    rw [List.findIdx?_eq_some_iff_getElem]
    refine ⟨by rw [hlen]; omega, ?_, fun j hj => absurd hj (by omega)⟩
    simp [newP, Fr.none]
  have hp : (newP n).place = some (0, newP n) := by unfold PS.place; rw [hfi]
  refine ⟨(newP n).take 0 s i l, by simp [PS.hold, hat, hp], ⟨_, List.getElem?_set_self (by rw [hlen]; omega), rfl, rfl, rfl, rfl⟩, fun j g hj hg => ?_⟩
  rcases set_at hg with ⟨rfl, _⟩ | ⟨_, hg⟩
  · exact absurd rfl hj
  · have : g = Fr.none := List.eq_of_mem_replicate (List.mem_of_getElem? hg)
    rw [this]; rfl
end
end Go.Pool
