/- The runs of the operations on maps. -/
import Derived.Test.YtceplmmmlindnaaCAb10
import Derived.MapKept
namespace Go.Ab
set_option linter.unusedSimpArgs false
set_option linter.unusedVariables false
open Go.MapKept

section
variable {P : Program} {μ0 : Ren} {h0 : Heap} {w0 : World} {μ : Ren} {lam : List Nat} {L : Locs} {h : Heap} {w : World} {K : KO}

theorem relM.length {μ : Ren} : ∀ {es : List (AV × AV × Nat)} {l : List MapEntry}, relM μ es l → l.length = es.length
  | [], _, r => by rw [show _ = [] from r]; rfl
  | (k, v, n) :: es, _, ⟨E, Es, h1, _, _, _, h5⟩ => by rw [h1]; simp [h5.length]

theorem relM.get {μ : Ren} : ∀ {es : List (AV × AV × Nat)} {l : List MapEntry}, relM μ es l → ∀ {i : Nat} {x : AV × AV × Nat}, es[i]? = some x → ∃ E, l[i]? = some E ∧ x.1.rel μ E.key ∧ x.2.1.rel μ E.val ∧ E.born = x.2.2
  | [], _, _, i, x, hx => by simp at hx
  | (k, v, n) :: es, _, ⟨E, Es, h1, h2, h3, h4, h5⟩, i, x, hx => by
    subst h1
    cases i with
    | zero => simp at hx; subst hx; exact ⟨E, rfl, h2, h3, h4⟩
    | succ i => simp at hx; obtain ⟨E', g1, g2⟩ := h5.get hx; exact ⟨E', by simpa using g1, g2⟩

theorem relM.of_get {μ : Ren} : ∀ {es : List (AV × AV × Nat)} {l : List MapEntry}, l.length = es.length → (∀ (i : Nat) (x : AV × AV × Nat) (E : MapEntry), es[i]? = some x → l[i]? = some E → x.1.rel μ E.key ∧ x.2.1.rel μ E.val ∧ E.born = x.2.2) → relM μ es l
  | [], l, hl, _ => by simp at hl; exact hl
  | x :: es, [], hl, _ => by simp at hl
  | (k, v, n) :: es, E :: Es, hl, hh => by
    obtain ⟨h1, h2, h3⟩ := hh 0 (k, v, n) E (by simp) (by simp)
    exact ⟨E, Es, rfl, h1, h2, h3, relM.of_get (by simpa using hl) fun i x E' hx hE => hh (i + 1) x E' (by simpa using hx) (by simpa using hE)⟩

theorem keyIs_run {kt : TypeId} {d : TypeDesc} (hd : P.underlying kt = some d) {a b : AV} {va vb : Value} (ha : a.rel μ va) (hb : b.rel μ vb) {KB : Bool → Prop} (hk : keyIs P kt a b KB) :
    ∃ r, Instr.sameNow d va vb = some r ∧ KB r ∧ (r = true → va = vb) := by
  unfold keyIs at hk
  rw [hd] at hk
  split at hk
  · rename_i heq
    cases heq
    obtain ⟨h1, hk2⟩ := need_elim hk
    obtain rfl : va = _ := ha
    obtain rfl : vb = _ := hb
    have := of_decide_eq_true h1
    subst this
    refine ⟨_, by simp only [Instr.sameNow, if_true], hk2, fun h => ?_⟩
    rw [eq_of_beq h]
  · rename_i heq
    cases heq
    obtain rfl : va = _ := ha
    obtain rfl : vb = _ := hb
    refine ⟨_, rfl, by rw [string_beq]; exact hk, fun h => ?_⟩
    rw [string_beq] at h
    rw [eq_of_beq h]
  · rename_i heq
    cases heq
    obtain rfl : va = _ := ha
    obtain rfl : vb = _ := hb
    refine ⟨_, rfl, hk, fun h => ?_⟩
    rw [eq_of_beq h]
  · exact hk.elim

theorem findP_run {kt : TypeId} {d : TypeDesc} (hd : P.underlying kt = some d) {k : AV} {vk : Value} (hkv : k.rel μ vk) : ∀ {es : List (AV × AV × Nat)} {ES : List MapEntry} {i : Nat} {KR : Option (Nat × AV × Nat) → Prop},
    relM μ es ES → findP P kt k es i KR →
    (Instr.findNow d vk ES i = some none ∧ KR none) ∨ ∃ (j : Nat) (k' v : AV) (n : Nat) (E : MapEntry), Instr.findNow d vk ES i = some (some (i + j, E.val)) ∧ KR (some (i + j, v, n)) ∧ es[j]? = some (k', v, n) ∧ ES[j]? = some E ∧ v.rel μ E.val ∧ E.key = vk ∧ E.born = n
  | [], ES, i, KR, r, hk => by
    obtain rfl : ES = [] := r
    exact .inl ⟨rfl, hk⟩
  | (k', v, n) :: es, _, i, KR, ⟨E, Es, h1, h2, h3, h4, h5⟩, hk => by
    subst h1
    simp only [findP] at hk
    obtain ⟨b, g1, g2, g3⟩ := keyIs_run hd hkv h2 hk
    rcases vif_elim g2 with ⟨rfl, g2⟩ | ⟨rfl, g2⟩
    · right
      exact ⟨0, k', v, n, E, by simp [Instr.findNow, g1], g2, rfl, rfl, h3, (g3 rfl).symm, h4⟩
    · rcases findP_run hd hkv h5 g2 with ⟨f1, f2⟩ | ⟨j, k2, v2, n2, E2, f1, f2, f3, f4, f5, f6, f7⟩
      · left
        exact ⟨by simp only [Instr.findNow, g1]; exact f1, f2⟩
      · right
        refine ⟨j + 1, k2, v2, n2, E2, ?_, ?_, by simpa using f3, by simpa using f4, f5, f6, f7⟩
        · simp only [Instr.findNow, g1]; rw [f1]; congr 3; omega
        · rw [show i + (j + 1) = i + 1 + j by omega]; exact f2

theorem keyOk_some {kt : TypeId} {k : AV} {vk : Value} (hkv : k.rel μ vk) (h : keyOk P kt k = true) : ∃ d, P.underlying kt = some d ∧ IsKey d vk := by
  unfold keyOk at h
  split at h
  · rename_i hu
    obtain rfl : vk = _ := hkv
    have := of_decide_eq_true h
    subst this
    exact ⟨_, hu, rfl⟩
  · rename_i hu; obtain rfl : vk = _ := hkv; exact ⟨_, hu, trivial⟩
  · rename_i hu; obtain rfl : vk = _ := hkv; exact ⟨_, hu, trivial⟩
  · cases h

/-- What a map holds. -/
theorem map_block (R : Rel μ0 h0 w0 μ lam L h w) {b cl : Nat} {es : List (AV × AV × Nat)} (hb : h[b]? = some (.mp es cl)) {v : Value} (hv : AV.rel μ (.map (some b)) v) :
    ∃ (e : ME) (ES : Array MapEntry), μ[b]? = some e ∧ v = .map (some e.r) ∧ w.heap[e.r]? = some (.map ES cl) ∧ relM μ es ES.toList := by
  obtain ⟨e, he, hv⟩ := hv
  obtain ⟨ES, h1, h2⟩ := R.heap.blk b _ e hb he
  exact ⟨e, ES, he, hv, h1, h2⟩

theorem out_lookup (R : Rel μ0 h0 w0 μ lam L h w) {t kt et : TypeId} (ht : P.underlying t = some (.map kt et)) {m : Option Nat} {vm : Value} (hm : AV.rel μ (.map m) vm) {k : AV} {vk : Value} (hkv : k.rel μ vk) {ok : Bool}
    (hk : PLookup P kt et m k ok h fun v => K (.val v) L h) : Out P μ0 h0 w0 μ lam w (Instr.lookup t vm vk ok) K := by
  unfold PLookup at hk
  split at hk
  · rename_i es z hes hz
    obtain ⟨h1, hk⟩ := need_elim hk
    obtain ⟨d, hd, hkey⟩ := keyOk_some hkv h1
    obtain ⟨i, zv, hi, hiz, hzz⟩ := tz_info hz
    have hzr : z.rel μ zv := ofV_rel μ 4 zv z hzz
    have hzero : (zeroValue et).run P w = .ok zv w := by simp [zeroValue, typeInfo, hi, hiz]
    obtain ⟨ES, hrel, hget⟩ : ∃ ES : Array MapEntry, relM μ es ES.toList ∧ ∀ (r' : Option (Nat × Value)) (v : Value), Instr.findNow d vk ES.toList 0 = some r' →
        (v = match r' with | some (_, v) => (if ok then .tuple #[v, .bool true] else v) | none => (if ok then .tuple #[zv, .bool false] else zv)) → (Instr.lookup t vm vk ok).run P w = .ok v w := by
      cases m with
      | none =>
        obtain rfl : vm = _ := hm
        simp only [mapEs, Option.some.injEq] at hes
        subst hes
        refine ⟨#[], rfl, fun r' v hf hv => ?_⟩
        unfold Instr.lookup
        simp only [Sem.run_bind, run_underlying ht, Result.andThen_ok, Sem.run_pure, run_checkKey hd hkey, run_findKey hd hf]
        cases r' with
        | none => simp [hzero, hv]
        | some p => simp [hv]
      | some b =>
        simp only [mapEs] at hes
        split at hes
        · rename_i es' cl hb
          cases hes
          obtain ⟨e, ES, he, rfl, h2, h3⟩ := map_block R hb hm
          refine ⟨ES, h3, fun r' v hf hv => ?_⟩
          unfold Instr.lookup
          simp only [Sem.run_bind, run_underlying ht, Result.andThen_ok, Sem.run_pure, run_getObj_map h2, run_checkKey hd hkey, run_findKey hd hf]
          cases r' with
          | none => simp [hzero, hv]
          | some p => simp [hv]
        · cases hes
    rcases findP_run hd hkv hrel hk with ⟨g1, g2⟩ | ⟨j, k', v, n, E, g1, g2, g3, g4, g5, g6, g7⟩
    · refine Out.same R (hget _ _ g1 rfl) g2 ?_
      cases ok
      · exact hzr
      · exact ⟨_, rfl, ⟨zv, [.bool false], rfl, hzr, _, _, rfl, rfl, rfl⟩⟩
    · refine Out.same R (hget _ _ g1 rfl) g2 ?_
      cases ok
      · exact g5
      · exact ⟨_, rfl, ⟨E.val, [.bool true], rfl, g5, _, _, rfl, rfl, rfl⟩⟩
  · exact hk.elim

theorem sameBits_key {d : TypeDesc} {v : Value} (h : IsKey d v) : Instr.sameBits 10000 v v = true := by
  cases d <;> cases v <;> simp_all [IsKey, Instr.sameBits]
  rename_i s
  have := string_beq s.data.toList s.data.toList
  simpa using this

theorem run_setObj' {r : Nat} {ES : Array MapEntry} {cl : Nat} (hb : w.heap[r]? = some (.map ES cl)) (o : Obj) : (setObj r o).run P w = .ok () (w.setBlk r o) := run_setObj_map o hb

theorem out_update (R : Rel μ0 h0 w0 μ lam L h w) {t kt et : TypeId} (ht : P.underlying t = some (.map kt et)) {b : Nat} {vm : Value} (hm : AV.rel μ (.map (some b)) vm) {k v : AV} {vk vv : Value} (hkv : k.rel μ vk) (hvv : v.rel μ vv)
    {KH : Heap → Prop} (hk : PUpdate P kt b k v h KH) : ∃ w' h', (Instr.mapUpdate t vm vk vv).run P w = .ok () w' ∧ KH h' ∧ Rel μ0 h0 w0 μ lam L h' w' := by
  unfold PUpdate at hk
  split at hk
  · rename_i es cl hb
    obtain ⟨h1, hk⟩ := need_elim hk
    simp only [Bool.and_eq_true] at h1
    obtain ⟨d, hd, hkey⟩ := keyOk_some hkv h1.1
    obtain ⟨e, ES, he, rfl, h2, h3⟩ := map_block R hb hm
    have hlt := heap_lt h2
    rcases findP_run hd hkv h3 hk with ⟨g1, g2⟩ | ⟨j, k', v', n, E, g1, g2, g3, g4, g5, g6, g7⟩
    · refine ⟨w.setBlk e.r (.map (ES.push ⟨vk, vv, cl⟩) (cl + 1)), _, ?_, g2, R.setB hb rfl he rfl h2 ?_⟩
      · unfold Instr.mapUpdate
        simp only [Sem.run_bind, run_underlying ht, Result.andThen_ok, run_getObj_map h2, run_checkKey hd hkey, run_findKey hd g1, run_setObj' h2]
      · refine ⟨_, setBlk_same _ _ _ hlt, relM.of_get (by simp [h3.length]) fun i x E' hx hE => ?_⟩
        have hl := h3.length
        simp at hl
        simp only [Array.toList_push] at hE
        rw [List.getElem?_append] at hx hE
        split at hx
        · rename_i hi
          rw [if_pos (by simp [hl, hi])] at hE
          obtain ⟨E2, q1, q2⟩ := h3.get hx
          rw [q1] at hE; cases hE; exact q2
        · rename_i hi
          rw [if_neg (by simp [hl]; omega)] at hE
          have : i - es.length = 0 := by have := lt_of_get hx; simp at this; omega
          rw [this] at hx
          rw [show i - ES.toList.length = 0 by simp [hl]; omega] at hE
          simp at hx hE
          subst hx; subst hE
          exact ⟨hkv, hvv, rfl⟩
    · simp only [Nat.zero_add] at g1 g2
      refine ⟨w.setBlk e.r (.map (ES.modify j fun e => { e with key := vk, val := vv }) cl), _, ?_, g2, R.setB hb rfl he rfl h2 ?_⟩
      · unfold Instr.mapUpdate
        have hstay : (Instr.keyThatStays (((ES[j]?).map (·.key)).getD vk) vk).run P w = .ok vk w := by
          have : (((ES[j]?).map (·.key)).getD vk) = vk := by
            have : ES[j]? = some E := by simpa using g4
            rw [this]; simpa using g6
          rw [this]
          unfold Instr.keyThatStays
          rw [sameBits_key hkey]
          rfl
        simp only [Sem.run_bind, run_underlying ht, Result.andThen_ok, run_getObj_map h2, run_checkKey hd hkey, run_findKey hd g1]
        rw [hstay]
        simp only [Result.andThen_ok]
        rw [run_setObj' h2]
      · refine ⟨_, setBlk_same _ _ _ hlt, relM.of_get (by simp [h3.length]; try (have := h3.length; simpa using this)) fun i x E' hx hE => ?_⟩
        have hE' : (ES.modify j fun e => { e with key := vk, val := vv })[i]? = some E' := by rw [← Array.getElem?_toList]; exact hE
        rw [Array.getElem?_modify] at hE'
        rw [List.getElem?_set] at hx
        by_cases hij : j = i
        · subst hij
          rw [if_pos rfl] at hx hE'
          rw [if_pos (lt_of_get g3)] at hx
          have : ES[j]? = some E := by simpa using g4
          rw [this] at hE'
          simp at hE' hx
          subst hE'; subst hx
          exact ⟨hkv, hvv, g7⟩
        · rw [if_neg hij] at hx hE'
          obtain ⟨E2, q1, q2⟩ := h3.get hx
          have : ES[i]? = some E2 := by simpa using q1
          rw [this] at hE'; simp at hE'; subst hE'; exact q2
  · exact hk.elim

theorem out_delete (R : Rel μ0 h0 w0 μ lam L h w) {t u kt et ty : TypeId} (ht : P.underlying t = some (.map kt et)) {m : Option Nat} {vm : Value} (hm : AV.rel μ (.map m) vm) {k : AV} {vk : Value} (hkv : k.rel μ vk)
    {KH : Heap → Prop} (hk : PDelete P kt m k h KH) : ∃ w' h', (Builtin.delete_ #[t, u] ty #[vm, vk]).run P w = .ok (.tuple #[]) w' ∧ KH h' ∧ Rel μ0 h0 w0 μ lam L h' w' := by
  unfold PDelete at hk
  split at hk
  · obtain rfl : vm = _ := hm
    obtain ⟨h1, hk⟩ := need_elim hk
    obtain ⟨d, hd, hkey⟩ := keyOk_some hkv h1
    refine ⟨w, h, ?_, hk, R⟩
    unfold Builtin.delete_
    simp [run_underlying ht, run_checkKey hd hkey]
  · rename_i b
    split at hk
    · rename_i es cl hb
      obtain ⟨h1, hk⟩ := need_elim hk
      obtain ⟨d, hd, hkey⟩ := keyOk_some hkv h1
      obtain ⟨e, ES, he, rfl, h2, h3⟩ := map_block R hb hm
      have hlt := heap_lt h2
      rcases findP_run hd hkv h3 hk with ⟨g1, g2⟩ | ⟨j, k', v', n, E, g1, g2, g3, g4, g5, g6, g7⟩
      · refine ⟨w.setBlk e.r (.map ES cl), _, ?_, g2, R.setB hb rfl he rfl h2 ⟨_, setBlk_same _ _ _ hlt, h3⟩⟩
        unfold Builtin.delete_
        simp [run_underlying ht, run_checkKey hd hkey, run_getObj_map h2, run_findKey hd g1, run_setObj' h2]
      · simp only [Nat.zero_add] at g1 g2
        refine ⟨w.setBlk e.r (.map (ES.eraseIdxIfInBounds j) cl), _, ?_, g2, R.setB hb rfl he rfl h2 ⟨_, setBlk_same _ _ _ hlt, ?_⟩⟩
        · unfold Builtin.delete_
          simp [run_underlying ht, run_checkKey hd hkey, run_getObj_map h2, run_findKey hd g1, run_setObj' h2]
        · have hj : j < ES.size := by have := lt_of_get g4; simpa using this
          have e1 : (ES.eraseIdxIfInBounds j).toList = ES.toList.eraseIdx j := by
            unfold Array.eraseIdxIfInBounds
            rw [dif_pos hj]
            exact Array.toList_eraseIdx ..
          rw [e1]
          have hl := h3.length
          refine relM.of_get (by rw [List.length_eraseIdx, List.length_eraseIdx, hl]) fun i x E' hx hE => ?_
          rw [List.getElem?_eraseIdx] at hx hE
          split at hx
          · rename_i hi
            rw [if_pos hi] at hE
            obtain ⟨E2, q1, q2⟩ := h3.get hx
            rw [q1] at hE; cases hE; exact q2
          · rename_i hi
            rw [if_neg hi] at hE
            obtain ⟨E2, q1, q2⟩ := h3.get hx
            rw [q1] at hE; cases hE; exact q2
    · exact hk.elim

theorem out_makeMap (R : Rel μ0 h0 w0 μ lam L h w) {t : TypeId} (hk : K (.val (.map (some h.length))) L (h ++ [.mp [] 0])) : Out P μ0 h0 w0 μ lam w (Instr.makeMap t none) K := by
  have hlen := R.heap.len
  refine ⟨.map (some w.heap.size), w.alloc (.map #[] 0), _, _, _, _, lam, ?_, hk, R.allocB (.mp [] 0) (.map #[] 0) 0 ⟨#[], heap_push_new _ _, rfl⟩, Ren.le_append _ _, lamLe.refl _, ?_⟩
  · rfl
  · exact ⟨⟨w.heap.size, 0, 0⟩, by rw [← hlen]; simp, rfl⟩

theorem out_range (R : Rel μ0 h0 w0 μ lam L h w) {t kt et : TypeId} (ht : P.underlying t = some (.map kt et)) {m : Option Nat} {vm : Value} (hm : AV.rel μ (.map m) vm)
    (hk : match m with
      | none => K (.val (.ptr (some ⟨h.length, 0⟩))) L (h ++ [.it none 0 [] 0])
      | some b => (match h[b]? with
        | some (.mp _ cl) => K (.val (.ptr (some ⟨h.length, 0⟩))) L (h ++ [.it (some b) cl [] cl])
        | _ => False)) : Out P μ0 h0 w0 μ lam w (Instr.range t vm) K := by
  have hlen := R.heap.len
  cases m with
  | none =>
    obtain rfl : vm = _ := hm
    refine ⟨.pointer (some ⟨w.heap.size, 0, none⟩), w.alloc (.mapIter none 0 #[] 0), _, _, _, _, lam, ?_, hk, R.allocB (.it none 0 [] 0) (.mapIter none 0 #[] 0) 0 ⟨rfl, none, heap_push_new _ _, rfl⟩, Ren.le_append _ _, lamLe.refl _, ?_⟩
    · simp [Instr.range, run_underlying ht]
    · exact ⟨⟨w.heap.size, 0, 0⟩, by rw [← hlen]; simp, rfl⟩
  | some b =>
    simp only at hk
    split at hk
    · rename_i es cl hb
      obtain ⟨e, ES, he, rfl, h2, h3⟩ := map_block R hb hm
      refine ⟨.pointer (some ⟨w.heap.size, 0, none⟩), w.alloc (.mapIter (some e.r) cl #[] cl), _, _, _, _, lam, ?_, hk,
        R.allocB (.it (some b) cl [] cl) (.mapIter (some e.r) cl #[] cl) 0 ⟨rfl, some e.r, heap_push_new _ _, e, Ren.le_append _ _ _ _ he, rfl⟩, Ren.le_append _ _, lamLe.refl _, ?_⟩
      · simp [Instr.range, run_underlying ht, run_getObj_map h2]
      · exact ⟨⟨w.heap.size, 0, 0⟩, by rw [← hlen]; simp, rfl⟩
    · exact hk.elim

/-- An iterator's block. -/
theorem it_block (R : Rel μ0 h0 w0 μ lam L h w) {b since last : Nat} {m : Option Nat} {seen : List Nat} (hb : h[b]? = some (.it m since seen last)) {v : Value} (hv : AV.rel μ (.ptr (some ⟨b, 0⟩)) v) :
    ∃ (e : ME) (mm : Option Nat), μ[b]? = some e ∧ v = .pointer (some ⟨e.r, 0, none⟩) ∧ w.heap[e.r]? = some (.mapIter mm since seen.toArray last) ∧ relO μ m mm ∧ e.s = 0 := by
  obtain ⟨e, he, hv⟩ := hv
  obtain ⟨h0, mm, h1, h2⟩ := R.heap.blk b _ e hb he
  exact ⟨e, mm, he, by rw [hv]; simp [h0], h1, h2, h0⟩

theorem relM.filter {μ : Ren} (p : Nat → Bool) : ∀ {es : List (AV × AV × Nat)} {l : List MapEntry}, relM μ es l → relM μ (es.filter fun e => p e.2.2) (l.filter fun E => p E.born)
  | [], _, r => by rw [show _ = [] from r]; rfl
  | (k, v, n) :: es, _, ⟨E, Es, h1, h2, h3, h4, h5⟩ => by
    subst h1
    subst h4
    cases hp : p E.born with
    | true => simp only [List.filter, hp]; exact ⟨E, _, rfl, h2, h3, rfl, h5.filter p⟩
    | false => simp only [List.filter, hp]; exact h5.filter p

theorem allE_mem {KE : AV × AV × Nat → Prop} : ∀ {l : List (AV × AV × Nat)}, allE l KE → ∀ x ∈ l, KE x
  | [], _, x, hx => by simp at hx
  | [e], h, x, hx => by simp at hx; subst hx; exact h
  | e :: e' :: es, ⟨h1, h2⟩, x, hx => by
    rcases List.mem_cons.1 hx with rfl | hx
    · exact h1
    · exact allE_mem h2 x hx

theorem run_getObj_it {r : Nat} {a : Option Nat} {b d : Nat} {c : Array Nat} (h : w.heap[r]? = some (.mapIter a b c d)) : (getObj r).run P w = .ok (.mapIter a b c d) w := by simp [getObj, Sem.run, h]
theorem run_setObj_it {r : Nat} {a : Option Nat} {b d : Nat} {c : Array Nat} (o' : Obj) (h : w.heap[r]? = some (.mapIter a b c d)) : (setObj r o').run P w = .ok () (w.setBlk r o') := by
  simp [setObj, Sem.run, h, World.setBlk]

theorem out_next (R : Rel μ0 h0 w0 μ lam L h w) {b : Nat} {ty : TypeId} {v : Value} (hv : AV.rel μ (.ptr (some ⟨b, 0⟩)) v) (hk : PNext b h fun x h' => K (.val x) L h') : Out P μ0 h0 w0 μ lam w (Instr.next v false ty) K := by
  unfold PNext at hk
  split at hk
  · rename_i s1 s2 s3 hb
    obtain ⟨e, mm, he, rfl, h1, h2, h3⟩ := it_block R hb hv
    obtain rfl : mm = none := h2
    refine Out.same R (v := .tuple #[.bool false]) ?_ hk ⟨_, rfl, _, _, rfl, rfl, rfl⟩
    simp only [Instr.next, Sem.run_bind, run_getObj_it h1, Result.andThen_ok]
    rfl
  · rename_i m since seen last hb
    obtain ⟨e, mm, he, rfl, h1, h2, h3⟩ := it_block R hb hv
    obtain ⟨em, hem, rfl⟩ := h2
    split at hk
    · rename_i es cl hm
      obtain ⟨hall, hk⟩ := need_elim hk
      simp only [List.all_eq_true, Bool.and_eq_true, decide_eq_true_eq] at hall
      obtain ⟨ES, g1, g2⟩ := R.heap.blk m _ em hm hem
      have hES : ∀ E ∈ ES.toList, E.born < since ∧ E.born < last := by
        intro E hE
        obtain ⟨i, hi⟩ := List.getElem?_of_mem hE
        have hl := g2.length
        have hlt := lt_of_get hi
        obtain ⟨E', q1, q2, q3, q4⟩ := g2.get (i := i) (x := es[i]'(by omega)) (by simp)
        rw [hi] at q1; cases q1
        rw [q4]
        exact hall _ (List.getElem_mem _)
      have hif : (!seen.toArray.isEmpty && !ES.isEmpty && ES.all (fun x => decide (x.born ≥ last))) = false := by
        cases hemp : ES.isEmpty with
        | true => simp
        | false =>
          have : 0 < ES.size := by
            rcases Nat.eq_zero_or_pos ES.size with h0 | h0
            · simp [Array.isEmpty, h0] at hemp
            · exact h0
          have hx := hES ES[0] (by simp)
          have : ES.all (fun x => decide (x.born ≥ last)) = false := by
            rw [Bool.eq_false_iff]
            intro hh
            have := (Array.all_eq_true.1 hh) 0 this
            simp at this
            omega
          simp [this]
      have hfl : (ES.filter fun e => !seen.toArray.contains e.born).toList = ES.toList.filter fun E => !seen.contains E.born := by
        rw [Array.toList_filter]
        congr 1
        funext E
        simp [Array.contains_eq_mem, List.contains_eq_mem]
      have hleft := g2.filter fun n => !seen.contains n
      rw [← hfl] at hleft
      generalize hLdef : (ES.filter fun e => !seen.toArray.contains e.born) = Lft at hleft
      have hmemL : ∀ x ∈ Lft.toList, x.born < since := by
        intro x hx
        rw [← hLdef] at hx
        rw [Array.toList_filter] at hx
        exact (hES x (List.mem_filter.1 hx).1).1
      have e1 : Lft.filter (fun x => decide (x.born < since)) = Lft := Array.filter_eq_self.2 (fun x hx => by simpa using hmemL x (by simpa using hx))
      have e2 : Lft.filter (fun x => decide (x.born ≥ since)) = #[] := by
        rw [Array.filter_eq_empty_iff]
        intro x hx
        have := hmemL x (by simpa using hx)
        simp
        omega
      obtain ⟨msg, hrun0⟩ : ∃ msg : String, ∀ (X : Result Value), ((do
          let candidates := (if Lft.isEmpty then #[none] else #[]) ++ Lft.map some
          match candidates[← choose (.mapNext candidates.size)]? with
          | some (some e') => do
            setObj e.r (.mapIter (some em.r) since (seen.toArray.push e'.born) cl)
            pure (.tuple #[.bool true, e'.key, e'.val])
          | some none => pure (.tuple #[.bool false])
          | none => stuck msg : Sem Value).run P w = X) → (Instr.next (.pointer (some ⟨e.r, 0, none⟩)) false ty).run P w = X := by
        apply Exists.intro
        intro X hX
        rw [← hX]
        simp only [Instr.next, Sem.run_bind, run_getObj_it h1, run_getObj_map g1, Result.andThen_ok, hif, Bool.false_eq_true, if_false, hLdef, e1, e2, Array.append_empty]
        rfl
      have hlenL := hleft.length
      split at hk
      · rename_i hnil
        have : leftE es seen = [] := hnil
        unfold leftE at this
        rw [this] at hlenL
        have h0 : Lft = #[] := Array.eq_empty_of_size_eq_zero (by simpa using hlenL)
        refine Out.same R (v := .tuple #[.bool false]) (hrun0 _ ?_) hk ⟨_, rfl, _, _, rfl, rfl, rfl⟩
        rw [h0]
        simp [choose, Sem.run, Question.forced]
      · rename_i hne
        have hpos : 0 < Lft.size := by
          rcases Nat.eq_zero_or_pos Lft.size with h0 | h0
          · exfalso
            apply hne
            unfold leftE
            apply List.eq_nil_of_length_eq_zero
            rw [← hlenL]
            simpa using h0
          · exact h0
        have hnE : Lft.isEmpty = false := by unfold Array.isEmpty; exact decide_eq_false (by omega)
        have hch : ∃ (j : Nat) (w1 : World), j < Lft.size ∧ (w1 = w ∨ w1 = w.drew) ∧ (choose (Question.mapNext Lft.size)).run P w = .ok j w1 := by
          by_cases hf : Lft.size ≤ 1
          · exact ⟨0, w, by omega, .inl rfl, by simp [choose, Sem.run, Question.forced, hf]⟩
          · exact ⟨_, w.drew, Nat.mod_lt _ (by omega), .inr rfl, by
              simp only [choose, Sem.run, Question.forced, decide_eq_true_eq, hf, if_false, Question.cut]
              rfl⟩
        obtain ⟨j, w1, hj, hw1, hchr⟩ := hch
        have R1 : Rel μ0 h0 w0 μ lam L h w1 := by
          rcases hw1 with rfl | rfl
          · exact R
          · exact R.drawn rfl rfl rfl rfl
        have hh1 : w1.heap = w.heap := by rcases hw1 with rfl | rfl <;> rfl
        have h1' : w1.heap[e.r]? = some (.mapIter (some em.r) since seen.toArray last) := by rw [hh1]; exact h1
        obtain ⟨x, hx⟩ : ∃ x, (leftE es seen)[j]? = some x := ⟨_, List.getElem?_eq_getElem (by unfold leftE; rw [← hlenL]; simpa using hj)⟩
        obtain ⟨E, q1, q2, q3, q4⟩ := hleft.get hx
        have hEj : Lft[j] = E := by
          have : Lft[j]? = some E := by simpa using q1
          rw [Array.getElem?_eq_getElem hj] at this
          exact Option.some.inj this
        have hKx := allE_mem hk x (List.mem_of_getElem? hx)
        refine ⟨.tuple #[.bool true, E.key, E.val], w1.setBlk e.r (.mapIter (some em.r) since (seen.toArray.push E.born) cl), _, _, _, μ, lam, hrun0 _ ?_, hKx, ?_, .refl _, lamLe.refl _, ?_⟩
        · simp only [hnE, Bool.false_eq_true, if_false, Array.empty_append, Array.size_map, Sem.run_bind, hchr, Result.andThen_ok, Array.getElem?_map, Array.getElem?_eq_getElem hj, Option.map_some, hEj]
          rw [run_setObj_it _ h1']
          rfl
        · refine R1.setB hb rfl he rfl h1' ⟨h3, some em.r, ?_, em, hem, rfl⟩
          rw [setBlk_same _ _ _ (heap_lt h1'), q4]
          simp
        · exact ⟨_, rfl, _, _, rfl, rfl, _, _, rfl, q2, _, _, rfl, q3, rfl⟩
    · exact hk.elim
  · exact hk.elim

theorem relM.find {μ : Ren} (stamp : Nat) : ∀ {es : List (AV × AV × Nat)} {l : List MapEntry}, relM μ es l → ∀ {x}, es.find? (fun e => e.2.2 == stamp) = some x → ∃ E, l.find? (fun E => E.born == stamp) = some E ∧ x.1.rel μ E.key ∧ x.2.1.rel μ E.val
  | [], _, _, x, hx => by simp at hx
  | (k, v, n) :: es, _, ⟨E, Es, h1, h2, h3, h4, h5⟩, x, hx => by
    subst h1
    subst h4
    cases hp : E.born == stamp with
    | true => simp only [List.find?, hp] at hx ⊢; cases hx; exact ⟨E, rfl, h2, h3⟩
    | false => simp only [List.find?, hp] at hx ⊢; exact h5.find stamp hx

theorem out_entry (R : Rel μ0 h0 w0 μ lam L h w) {b : Nat} {v : Value} (hv : AV.rel μ (.ptr (some ⟨b, 0⟩)) v) (hk : PEntry b h fun x => K (.val x) L h) : Out P μ0 h0 w0 μ lam w (Instr.entry v) K := by
  unfold PEntry at hk
  split at hk
  · rename_i m since seen stepped hb
    obtain ⟨e, mm, he, rfl, h1, h2, h3⟩ := it_block R hb hv
    obtain ⟨em, hem, rfl⟩ := h2
    split at hk
    · rename_i stamp es cl hl hm
      obtain ⟨hc, hk2⟩ := need_elim hk
      clear hk
      have hc' : cl = stepped := by simpa using hc
      subst hc'
      obtain ⟨ES, g1, g2⟩ := R.heap.blk m _ em hm hem
      split at hk2
      · rename_i x hx
        obtain ⟨E, q1, q2, q3⟩ := g2.find stamp hx
        refine Out.same R (v := .tuple #[E.key, E.val]) ?_ hk2 ⟨_, rfl, _, _, rfl, q2, _, _, rfl, q3, rfl⟩
        have hback : seen.toArray.back? = some stamp := by simpa using hl
        have hfind : ES.find? (fun E => E.born == stamp) = some E := by rw [← Array.find?_toList]; exact q1
        simp only [Instr.entry, Sem.run_bind, run_getObj_it h1, Result.andThen_ok, hback, run_getObj_map g1]
        simp [hfind]
      · exact hk2.elim
    · exact hk.elim
  · exact hk.elim
end
end Go.Ab
