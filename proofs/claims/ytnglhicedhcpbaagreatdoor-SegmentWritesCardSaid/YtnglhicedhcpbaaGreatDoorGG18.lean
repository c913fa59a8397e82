/- Numbers as bytes: the plain law. -/
namespace Go.Num
set_option linter.unusedVariables false
set_option linter.unusedSimpArgs false

abbrev Bs := List UInt8
def wid (n : Nat) : Nat := if h : n < 256 then 1 else 1 + wid (n / 256)
termination_by n
decreasing_by omega

theorem wid_pos {n : Nat} : 1 ≤ wid n := by
  unfold wid; split <;> omega
theorem wid_lt : ∀ (k n : Nat), 1 ≤ k → (wid n ≤ k ↔ n < 256 ^ k)
  | 0, n, h => by omega
  | 1, n, _ => by
    unfold wid
    split
    · simp; omega
    · have := wid_pos (n := n / 256)
      constructor
      · intro h; omega
      · intro h; simp at h; omega
  | k + 2, n, _ => by
    unfold wid
    have ih := wid_lt (k + 1) (n / 256) (by omega)
    split
    · rename_i h
      have : 256 ^ 1 ≤ 256 ^ (k + 2) := Nat.pow_le_pow_right (by omega) (by omega)
      constructor
      · intro _; omega
      · intro _; omega
    · have h1 : 256 ^ (k + 2) = 256 * 256 ^ (k + 1) := by rw [Nat.pow_succ]; omega
      have h2 : 1 + wid (n / 256) ≤ k + 2 ↔ wid (n / 256) ≤ k + 1 := by omega
      rw [h2, ih, h1]
      exact Nat.div_lt_iff_lt_mul (by omega) |>.trans (by rw [Nat.mul_comm])

/-- The lowest k bytes of a number, the highest first. -/
def beL (n : Nat) : Nat → Bs
  | 0 => []
  | k + 1 => beL (n / 256) k ++ [UInt8.ofNat (n % 256)]
def beV (l : Bs) : Nat := l.foldl (fun a b => a * 256 + b.toNat) 0
theorem beL_len : ∀ (k n : Nat), (beL n k).length = k
  | 0, n => rfl
  | k + 1, n => by simp [beL, beL_len k]
theorem beV_snoc {l : Bs} {x : UInt8} : beV (l ++ [x]) = beV l * 256 + x.toNat := by simp [beV]
theorem beV_beL : ∀ (k n : Nat), beV (beL n k) = n % 256 ^ k
  | 0, n => by simp [beL, beV, Nat.mod_one]
  | k + 1, n => by
    rw [beL, beV_snoc, beV_beL k]
    have h1 : (UInt8.ofNat (n % 256)).toNat = n % 256 := by simp
    rw [h1, Nat.pow_succ, Nat.mul_comm (256 ^ k) 256, Nat.mod_mul]
    omega
theorem snoc_ind {α : Type} {P : List α → Prop} (h0 : P []) (h1 : ∀ l x, P l → P (l ++ [x])) (l : List α) : P l := by
  have : ∀ m : List α, P m.reverse := by
    intro m
    induction m with
    | nil => exact h0
    | cons x m ih => rw [List.reverse_cons]; exact h1 _ _ ih
  simpa using this l.reverse
theorem beV_lt : ∀ (l : Bs), beV l < 256 ^ l.length := by
  intro l
  induction l using snoc_ind with
  | h0 => simp [beV]
  | h1 l x ih =>
    rw [beV_snoc, List.length_append, List.length_cons, List.length_nil, Nat.pow_succ]
    have := x.toNat_lt
    omega
theorem beL_beV : ∀ (l : Bs), beL (beV l) l.length = l := by
  intro l
  induction l using snoc_ind with
  | h0 => rfl
  | h1 l x ih =>
    have hx := x.toNat_lt
    rw [beV_snoc, List.length_append, List.length_cons, List.length_nil, beL]
    have h1 : (beV l * 256 + x.toNat) / 256 = beV l := by omega
    have h2 : (beV l * 256 + x.toNat) % 256 = x.toNat := by omega
    rw [h1, h2, ih]
    simp
theorem beL_get : ∀ (k n i : Nat), i < k → (beL n k)[i]? = some (UInt8.ofNat (n / 256 ^ (k - 1 - i) % 256))
  | 0, n, i, h => by omega
  | k + 1, n, i, h => by
    rw [beL, List.getElem?_append, beL_len]
    split
    · rename_i hi
      rw [beL_get k (n / 256) i hi, Nat.div_div_eq_div_mul]
      have : 256 * 256 ^ (k - 1 - i) = 256 ^ (k + 1 - 1 - i) := by
        rw [Nat.mul_comm, ← Nat.pow_succ]; congr 1; omega
      rw [this]
    · have : i = k := by omega
      subst this
      simp

/-- A number's bytes. -/
def numB (n : Nat) : Bs := if n < 240 then [UInt8.ofNat n] else if n < 2288 then [UInt8.ofNat (240 + (n - 240) / 256), UInt8.ofNat ((n - 240) % 256)] else UInt8.ofNat (246 + wid n) :: beL n (wid n)
/-- The next number. -/
def rdN : Bs → Option (Nat × Bs)
  | [] => none
  | c :: l =>
    if c.toNat < 240 then some (c.toNat, l)
    else if c.toNat < 248 then (match l with | [] => none | x :: l' => some (240 + (c.toNat - 240) * 256 + x.toNat, l'))
    else if c.toNat ≤ 254 then
      (if c.toNat - 246 ≤ l.length ∧ beV (l.take (c.toNat - 246)) < 9223372036854775808 ∧ 2288 ≤ beV (l.take (c.toNat - 246)) ∧ wid (beV (l.take (c.toNat - 246))) = c.toNat - 246
       then some (beV (l.take (c.toNat - 246)), l.drop (c.toNat - 246)) else none)
    else none

theorem u8_of {n : Nat} (h : n < 256) : (UInt8.ofNat n).toNat = n := by simp; omega
theorem of_u8 {c : UInt8} : UInt8.ofNat c.toNat = c := by simp

theorem rdN_numB {n : Nat} (hn : n < 9223372036854775808) {l : Bs} : rdN (numB n ++ l) = some (n, l) := by
  unfold numB
  split
  · simp only [List.cons_append, List.nil_append, rdN]
    rw [u8_of (by omega), if_pos (by omega)]
  · split
    · simp only [List.cons_append, List.nil_append, rdN]
      rw [u8_of (by omega), u8_of (by omega), if_neg (by omega), if_pos (by omega)]
      have : 240 + (240 + (n - 240) / 256 - 240) * 256 + (n - 240) % 256 = n := by omega
      rw [this]
    · have hw : wid n ≤ 8 := (wid_lt 8 n (by omega)).2 (by omega)
      have hw2 : 2 ≤ wid n := by
        rcases Nat.lt_or_ge (wid n) 2 with h | h
        · have := (wid_lt 1 n (by omega)).1 (by omega)
          simp at this; omega
        · exact h
      simp only [List.cons_append, rdN]
      rw [u8_of (by omega), if_neg (by omega), if_neg (by omega), if_pos (by omega)]
      have e : 246 + wid n - 246 = wid n := by omega
      have hv : beV ((beL n (wid n) ++ l).take (wid n)) = n := by
        rw [List.take_left' (beL_len _ _), beV_beL]
        exact Nat.mod_eq_of_lt ((wid_lt _ n wid_pos).1 (Nat.le_refl _))
      rw [e, hv, if_pos ⟨by simp [beL_len], hn, by omega, rfl⟩, List.drop_left' (beL_len _ _)]

theorem numB_rdN {b l : Bs} {n : Nat} (h : rdN b = some (n, l)) : b = numB n ++ l ∧ n < 9223372036854775808 := by
  cases b with
  | nil => cases h
  | cons c t =>
    have hc := c.toNat_lt
    simp only [rdN] at h
    split at h
    · rename_i h1
      cases h
      refine ⟨?_, by omega⟩
      unfold numB
      rw [if_pos h1, of_u8]; rfl
    · split at h
      · rename_i h1 h2
        cases t with
        | nil => cases h
        | cons x t =>
          have hx := x.toNat_lt
          cases h
          refine ⟨?_, by omega⟩
          unfold numB
          rw [if_neg (by omega), if_pos (by omega)]
          have e1 : 240 + (240 + (c.toNat - 240) * 256 + x.toNat - 240) / 256 = c.toNat := by omega
          have e2 : (240 + (c.toNat - 240) * 256 + x.toNat - 240) % 256 = x.toNat := by omega
          rw [e1, e2, of_u8, of_u8]; rfl
      · split at h
        · split at h
          · rename_i h1 h2 h3 h4
            obtain ⟨g1, g2, g3, g4⟩ := h4
            simp only [Option.some.injEq, Prod.mk.injEq] at h
            obtain ⟨rfl, rfl⟩ := h
            refine ⟨?_, g2⟩
            unfold numB
            rw [if_neg (by omega), if_neg (by omega), g4]
            have e1 : 246 + (c.toNat - 246) = c.toNat := by omega
            have e2 : beL (beV (t.take (c.toNat - 246))) (c.toNat - 246) = t.take (c.toNat - 246) := by
              have := beL_beV (t.take (c.toNat - 246))
              rwa [List.length_take, Nat.min_eq_left g1] at this
            rw [e1, e2, of_u8]; simp
          · cases h
        · cases h
end Go.Num

/- Entries: their order, lists of them in order. The plain law. -/
namespace Go.Ent
set_option linter.unusedVariables false
set_option linter.unusedSimpArgs false

abbrev Ent := Int × Int × Int × Int
def ltE (a b : Ent) : Prop := a.1 < b.1 ∨ a.1 = b.1 ∧ (a.2.1 < b.2.1 ∨ a.2.1 = b.2.1 ∧ (a.2.2.1 < b.2.2.1 ∨ a.2.2.1 = b.2.2.1 ∧ a.2.2.2 < b.2.2.2))
instance (a b : Ent) : Decidable (ltE a b) := by unfold ltE; infer_instance
abbrev leE (a b : Ent) : Prop := ¬ ltE b a
theorem leE_trans {a b c : Ent} (h1 : leE a b) (h2 : leE b c) : leE a c := by unfold leE ltE at *; omega
def cmp1 (a b : Int) : Int := if a < b then -1 else if a > b then 1 else 0
def orI (a b : Int) : Int := if a = 0 then b else a
def cmpE (a b : Ent) : Int := orI (orI (cmp1 a.1 b.1) (cmp1 a.2.1 b.2.1)) (orI (cmp1 a.2.2.1 b.2.2.1) (cmp1 a.2.2.2 b.2.2.2))
theorem cmpE_lt {a b : Ent} : cmpE a b < 0 ↔ ltE a b := by
  unfold cmpE orI cmp1 ltE
  repeat' split
  all_goals omega
theorem cmpE_gt {a b : Ent} : cmpE a b > 0 ↔ ltE b a := by
  unfold cmpE orI cmp1 ltE
  repeat' split
  all_goals omega

abbrev SortedL (l : List Ent) : Prop := l.Pairwise leE
/-- In order: each with the one behind it. -/
theorem sorted_of_adj {l : List Ent} (h : ∀ i a b, l[i]? = some a → l[i + 1]? = some b → leE a b) : SortedL l := by
  induction l with
  | nil => exact .nil
  | cons a l ih =>
    have hl := ih fun i x y hx hy => h (i + 1) x y (by simpa using hx) (by simpa using hy)
    refine .cons ?_ hl
    cases l with
    | nil => simp
    | cons b l =>
      have hab : leE a b := h 0 a b (by simp) (by simp)
      intro c hc
      rcases List.mem_cons.1 hc with rfl | hc
      · exact hab
      · exact leE_trans hab (List.rel_of_pairwise_cons hl hc)
theorem adj_of_sorted {l : List Ent} (h : SortedL l) {i : Nat} {a b : Ent} (ha : l[i]? = some a) (hb : l[i + 1]? = some b) : leE a b := by
  obtain ⟨hi, rfl⟩ := List.getElem?_eq_some_iff.1 ha
  obtain ⟨hi2, rfl⟩ := List.getElem?_eq_some_iff.1 hb
  exact List.pairwise_iff_getElem.1 h i (i + 1) hi hi2 (by omega)
instance (l : List Ent) : Decidable (SortedL l) := by unfold SortedL; infer_instance

end Go.Ent

/- Entries as bytes, packs of them: the plain law. -/
namespace Go.Ent
open Go.Num
set_option linter.unusedVariables false
set_option linter.unusedSimpArgs false

def entOk (e : Ent) : Bool := decide (0 ≤ e.1 ∧ e.1 < 65536 ∧ 0 ≤ e.2.1 ∧ e.2.1 < 65536 ∧ 0 ≤ e.2.2.1 ∧ e.2.2.1 < 1048576 ∧ 0 ≤ e.2.2.2 ∧ e.2.2.2 < 1048576)
def entB (e : Ent) : Bs := numB e.1.toNat ++ numB e.2.1.toNat ++ (numB e.2.2.1.toNat ++ numB e.2.2.2.toNat)
def encL (l : List Ent) : Bs := l.flatMap entB
theorem encL_append {l m : List Ent} : encL (l ++ m) = encL l ++ encL m := by simp [encL]
theorem encL_one {e : Ent} : encL [e] = entB e := by simp [encL]
theorem wid_small {n k : Nat} (hk : 1 ≤ k) (h : n < 256 ^ k) : wid n ≤ k := (wid_lt k n hk).2 h
theorem numB_len2 {n : Nat} (h : n < 65536) : (numB n).length ≤ 3 := by
  have := wid_small (n := n) (k := 2) (by omega) (by omega)
  unfold numB
  split
  · simp
  · split
    · simp
    · simp [beL_len]; omega
theorem numB_len3 {n : Nat} (h : n < 1048576) : (numB n).length ≤ 4 := by
  have := wid_small (n := n) (k := 3) (by omega) (by omega)
  unfold numB
  split
  · simp
  · split
    · simp
    · simp [beL_len]; omega
theorem numB_pos {n : Nat} : 1 ≤ (numB n).length := by
  unfold numB
  split
  · simp
  · split <;> simp
theorem entB_len {e : Ent} (h : entOk e = true) : (entB e).length ≤ 14 := by
  have h := of_decide_eq_true h
  have h1 := numB_len2 (n := e.1.toNat) (by omega)
  have h2 := numB_len2 (n := e.2.1.toNat) (by omega)
  have h3 := numB_len3 (n := e.2.2.1.toNat) (by omega)
  have h4 := numB_len3 (n := e.2.2.2.toNat) (by omega)
  simp only [entB, List.length_append]; omega
theorem entB_pos {e : Ent} : 4 ≤ (entB e).length := by
  have h1 := numB_pos (n := e.1.toNat)
  have h2 := numB_pos (n := e.2.1.toNat)
  have h3 := numB_pos (n := e.2.2.1.toNat)
  have h4 := numB_pos (n := e.2.2.2.toNat)
  simp only [entB, List.length_append]; omega
/-- The next four numbers. -/
def rd4 (b : Bs) : Option (Ent × Bs) :=
  match rdN b with
  | none => none
  | some (x, b1) => match rdN b1 with
    | none => none
    | some (y, b2) => match rdN b2 with
      | none => none
      | some (z, b3) => match rdN b3 with
        | none => none
        | some (w, b4) => some (((x : Int), (y : Int), (z : Int), (w : Int)), b4)
/-- The next entry. -/
def rdE (b : Bs) : Option (Ent × Bs) := match rd4 b with
  | some (e, b') => if entOk e then some (e, b') else none
  | none => none
theorem rdE_entB {e : Ent} (h : entOk e = true) {b : Bs} : rdE (entB e ++ b) = some (e, b) := by
  have h' := of_decide_eq_true h
  obtain ⟨x, y, z, w⟩ := e
  simp only at h'
  unfold rdE rd4 entB
  simp only
  rw [List.append_assoc, List.append_assoc, rdN_numB (by omega)]
  simp only
  rw [rdN_numB (by omega)]
  simp only
  rw [List.append_assoc, rdN_numB (by omega)]
  simp only
  rw [rdN_numB (by omega)]
  simp only [Int.toNat_of_nonneg h'.1, Int.toNat_of_nonneg h'.2.2.1, Int.toNat_of_nonneg h'.2.2.2.2.1, Int.toNat_of_nonneg h'.2.2.2.2.2.2.1]
  rw [if_pos h]
theorem entB_rdE {b b' : Bs} {e : Ent} (h : rdE b = some (e, b')) : b = entB e ++ b' ∧ entOk e = true := by
  unfold rdE at h
  cases h4 : rd4 b with
  | none => rw [h4] at h; cases h
  | some r =>
    obtain ⟨e1, b1⟩ := r
    rw [h4] at h
    simp only at h
    split at h
    · rename_i hok
      cases h
      refine ⟨?_, hok⟩
      unfold rd4 at h4
      cases g1 : rdN b with
      | none => rw [g1] at h4; cases h4
      | some r1 =>
        obtain ⟨x, c1⟩ := r1
        rw [g1] at h4; simp only at h4
        cases g2 : rdN c1 with
        | none => rw [g2] at h4; cases h4
        | some r2 =>
          obtain ⟨y, c2⟩ := r2
          rw [g2] at h4; simp only at h4
          cases g3 : rdN c2 with
          | none => rw [g3] at h4; cases h4
          | some r3 =>
            obtain ⟨z, c3⟩ := r3
            rw [g3] at h4; simp only at h4
            cases g5 : rdN c3 with
            | none => rw [g5] at h4; cases h4
            | some r4 =>
              obtain ⟨w, c4⟩ := r4
              rw [g5] at h4
              simp only [Option.some.injEq, Prod.mk.injEq] at h4
              obtain ⟨rfl, rfl⟩ := h4
              obtain ⟨rfl, _⟩ := numB_rdN g1
              obtain ⟨rfl, _⟩ := numB_rdN g2
              obtain ⟨rfl, _⟩ := numB_rdN g3
              obtain ⟨rfl, _⟩ := numB_rdN g5
              simp [entB, List.append_assoc]
    · cases h
theorem rdE_short {b b' : Bs} {e : Ent} (h : rdE b = some (e, b')) : b'.length < b.length := by
  obtain ⟨rfl, _⟩ := entB_rdE h
  have := entB_pos (e := e)
  rw [List.length_append]; omega
def unpackN : Nat → Bs → Option (List Ent)
  | _, [] => some []
  | 0, _ :: _ => none
  | n + 1, x :: b => match rdE (x :: b) with
    | none => none
    | some (e, b') => (unpackN n b').map (e :: ·)
def unpack (b : Bs) : Option (List Ent) := unpackN b.length b
theorem unpackN_iff : ∀ (n : Nat) (b : Bs) (l : List Ent), b.length ≤ n → (unpackN n b = some l ↔ b = encL l ∧ ∀ e ∈ l, entOk e = true)
  | n, [], l, h => by
    constructor
    · intro h; cases n <;> (simp only [unpackN, Option.some.injEq] at h; subst h; exact ⟨rfl, by simp⟩)
    · rintro ⟨h1, h2⟩
      cases l with
      | nil => cases n <;> rfl
      | cons e l =>
        have := entB_pos (e := e)
        have := congrArg List.length h1
        simp [encL] at this; omega
  | 0, x :: b, l, h => by simp at h
  | n + 1, x :: b, l, h => by
    unfold unpackN
    constructor
    · intro h1
      cases hr : rdE (x :: b) with
      | none => rw [hr] at h1; cases h1
      | some r =>
        obtain ⟨e, b'⟩ := r
        rw [hr] at h1
        simp only [Option.map_eq_some_iff] at h1
        obtain ⟨l', hl', rfl⟩ := h1
        have hs := rdE_short hr
        obtain ⟨hb, hok⟩ := entB_rdE hr
        obtain ⟨g1, g2⟩ := (unpackN_iff n b' l' (by simp at h hs; omega)).1 hl'
        refine ⟨by rw [hb, g1]; simp [encL], ?_⟩
        intro e' he'
        rcases List.mem_cons.1 he' with rfl | he'
        · exact hok
        · exact g2 _ he'
    · rintro ⟨h1, h2⟩
      cases l with
      | nil => simp [encL] at h1
      | cons e l =>
        have e1 : x :: b = entB e ++ encL l := by rw [h1]; simp [encL]
        rw [e1, rdE_entB (h2 e (by simp))]
        simp only [Option.map_eq_some_iff]
        have hp := entB_pos (e := e)
        have hl : (encL l).length ≤ n := by
          have := congrArg List.length e1
          rw [List.length_append] at this; simp at this h; omega
        exact ⟨l, (unpackN_iff n _ l hl).2 ⟨rfl, fun e' he' => h2 e' (by simp [he'])⟩, rfl⟩
theorem unpack_iff {b : Bs} {l : List Ent} : unpack b = some l ↔ b = encL l ∧ ∀ e ∈ l, entOk e = true := unpackN_iff _ _ _ (Nat.le_refl _)
theorem unpack_enc {l : List Ent} (h : ∀ e ∈ l, entOk e = true) : unpack (encL l) = some l := unpack_iff.2 ⟨rfl, h⟩
theorem unpack_app {l : List Ent} (h : ∀ e ∈ l, entOk e = true) {b : Bs} : unpack (encL l ++ b) = (unpack b).map (l ++ ·) := by
  cases hu : unpack b with
  | some m =>
    obtain ⟨rfl, h2⟩ := unpack_iff.1 hu
    rw [← encL_append]
    exact unpack_enc fun e he => (List.mem_append.1 he).elim (h e) (h2 e)
  | none =>
    cases hx : unpack (encL l ++ b) with
    | none => rfl
    | some m =>
      exfalso
      obtain ⟨h1, h2⟩ := unpack_iff.1 hx
      clear hx
      induction l generalizing m with
      | nil =>
        rw [show encL ([] : List Ent) = [] by rfl, List.nil_append] at h1
        rw [unpack_iff.2 ⟨h1, h2⟩] at hu; cases hu
      | cons e l ih =>
        cases m with
        | nil =>
          have := congrArg List.length h1
          have hp := entB_pos (e := e)
          simp only [encL, List.flatMap_cons, List.flatMap_nil, List.length_append, List.length_nil] at this; omega
        | cons e' m =>
          have e1 : entB e ++ (encL l ++ b) = entB e' ++ encL m := by
            have : encL (e :: l) = entB e ++ encL l := by simp [encL]
            rw [this, List.append_assoc] at h1
            rw [h1]; simp [encL]
          have e2 := congrArg rdE e1
          rw [rdE_entB (h e (by simp)), rdE_entB (h2 e' (by simp))] at e2
          simp only [Option.some.injEq, Prod.mk.injEq] at e2
          exact ih (fun x hx => h x (by simp [hx])) m e2.2 (fun x hx => h2 x (by simp [hx]))
theorem unpack_none {b : Bs} (hne : b ≠ []) (h : rdE b = none) : unpack b = none := by
  cases b with
  | nil => exact absurd rfl hne
  | cons x b => unfold unpack; rw [List.length_cons, unpackN, h]

/-! Packs. -/
abbrev Gs := List (List Ent)
def pStep (s : Gs × List Ent) (e : Ent) : Gs × List Ent := if (encL s.2).length + (entB e).length > 43 then (s.1 ++ [s.2], [e]) else (s.1, s.2 ++ [e])
def pRun (l : List Ent) : Gs × List Ent := l.foldl pStep ([], [])
def pFin (s : Gs × List Ent) : Gs := if s.2 = [] then s.1 else s.1 ++ [s.2]
def packG (l : List Ent) : Gs := pFin (pRun l)
theorem pRun_snoc {l : List Ent} {e : Ent} : pRun (l ++ [e]) = pStep (pRun l) e := by simp [pRun]
theorem snoc_ind {α : Type} {P : List α → Prop} (h0 : P []) (h1 : ∀ l x, P l → P (l ++ [x])) (l : List α) : P l := by
  have : ∀ m : List α, P m.reverse := by
    intro m
    induction m with
    | nil => exact h0
    | cons x m ih => rw [List.reverse_cons]; exact h1 _ _ ih
  simpa using this l.reverse
theorem pRun_flat (l : List Ent) : (pRun l).1.flatten ++ (pRun l).2 = l := by
  induction l using snoc_ind with
  | h0 => rfl
  | h1 l e ih =>
    rw [pRun_snoc]
    unfold pStep
    split
    · simp only [List.flatten_append, List.flatten_cons, List.flatten_nil, List.append_nil]
      rw [ih]
    · simp only
      rw [← List.append_assoc, ih]
theorem pRun_last (l : List Ent) : (pRun l).2 = [] ↔ l = [] := by
  induction l using snoc_ind with
  | h0 => simp [pRun]
  | h1 l e ih =>
    rw [pRun_snoc]
    unfold pStep
    split <;> simp
theorem ok_snoc {l : List Ent} {e : Ent} (h : ∀ x ∈ l ++ [e], entOk x = true) : (∀ x ∈ l, entOk x = true) ∧ entOk e = true := ⟨fun x hx => h x (by simp [hx]), h e (by simp)⟩
theorem pRun_fit (l : List Ent) (hok : ∀ e ∈ l, entOk e = true) : (∀ g ∈ (pRun l).1, g ≠ [] ∧ (encL g).length ≤ 43) ∧ (encL (pRun l).2).length ≤ 43 := by
  induction l using snoc_ind with
  | h0 => simp [pRun, encL]
  | h1 l e ih =>
    obtain ⟨h1, h2⟩ := ok_snoc hok
    obtain ⟨i1, i2⟩ := ih h1
    have he := entB_len h2
    rw [pRun_snoc]
    unfold pStep
    split
    · rename_i h
      refine ⟨fun g hg => ?_, by rw [encL_one]; omega⟩
      rcases List.mem_append.1 hg with hg | hg
      · exact i1 g hg
      · simp at hg; subst hg
        refine ⟨fun h0 => ?_, i2⟩
        rw [h0] at h
        simp [encL] at h; omega
    · rename_i h
      refine ⟨i1, ?_⟩
      rw [encL_append, encL_one, List.length_append]; omega
theorem packG_flat (l : List Ent) : (packG l).flatten = l := by
  have := pRun_flat l
  unfold packG pFin
  split
  · rename_i h; rw [h, List.append_nil] at this; exact this
  · rw [List.flatten_append]; simpa using this
theorem packG_fit {l : List Ent} (hok : ∀ e ∈ l, entOk e = true) : ∀ g ∈ packG l, g ≠ [] ∧ (encL g).length ≤ 43 := by
  obtain ⟨h1, h2⟩ := pRun_fit l hok
  unfold packG pFin
  split
  · exact h1
  · rename_i h
    intro g hg
    rcases List.mem_append.1 hg with hg | hg
    · exact h1 g hg
    · simp at hg; subst hg; exact ⟨h, h2⟩
theorem packG_ok {l : List Ent} (hok : ∀ e ∈ l, entOk e = true) : ∀ g ∈ packG l, ∀ e ∈ g, entOk e = true := fun g hg e he => hok e (by rw [← packG_flat l]; exact List.mem_flatten.2 ⟨g, hg, he⟩)
theorem flat_len {gs : Gs} (h : ∀ g ∈ gs, g ≠ []) : gs.length ≤ gs.flatten.length := by
  induction gs with
  | nil => simp
  | cons g gs ih =>
    have h1 := ih fun x hx => h x (by simp [hx])
    have h2 : g.length ≠ 0 := fun h0 => h g (by simp) (List.eq_nil_of_length_eq_zero h0)
    simp only [List.flatten_cons, List.length_append, List.length_cons] at *; omega
theorem packG_len {l : List Ent} (hok : ∀ e ∈ l, entOk e = true) : (packG l).length ≤ l.length := by
  have := flat_len (gs := packG l) fun g hg => (packG_fit hok g hg).1
  rwa [packG_flat] at this
theorem packG_eq_nil {l : List Ent} (h : packG l = []) : l = [] := by rw [← packG_flat l, h]; rfl
/-- As the document packs: the last pack is filled up. -/
theorem packG_snoc {l : List Ent} {e : Ent} (hb : ¬ (entB e).length > 43) : packG (l ++ [e]) = if l = [] then [[e]] else (if (encL ((packG l).getLastD [])).length + (entB e).length > 43 then packG l ++ [[e]] else (packG l).dropLast ++ [(packG l).getLastD [] ++ [e]]) := by
  unfold packG
  rw [pRun_snoc]
  by_cases hl : l = []
  · subst hl
    rw [if_pos rfl]
    have : pStep (pRun []) e = ([], [e]) := by
      unfold pStep
      show (if (encL ([] : List Ent)).length + _ > 43 then _ else _) = _
      rw [if_neg (by simp [encL]; omega)]; rfl
    rw [this]; rfl
  · rw [if_neg hl]
    have h2 : (pRun l).2 ≠ [] := fun h => hl ((pRun_last l).1 h)
    have hf : pFin (pRun l) = (pRun l).1 ++ [(pRun l).2] := by unfold pFin; rw [if_neg h2]
    rw [hf, List.getLastD_concat, List.dropLast_concat]
    unfold pStep
    split
    · unfold pFin
      rw [if_neg (by simp)]
    · unfold pFin
      rw [if_neg (by simp)]
end Go.Ent

/- Sums that find bursts: the plain law. -/

namespace Go.Crc
set_option linter.unusedVariables false
set_option linter.unusedSimpArgs false

abbrev W := BitVec 32
abbrev poly : W := 0xedb88320#32
/-- One bit. -/
def step (c : W) : W := (c >>> 1) ^^^ (if c.getLsbD 0 then poly else 0#32)
theorem step_xor (a b : W) : step (a ^^^ b) = step a ^^^ step b := by
  unfold step
  rw [BitVec.ushiftRight_xor_distrib, BitVec.getLsbD_xor]
  cases a.getLsbD 0 <;> cases b.getLsbD 0 <;> simp only [Bool.xor_true, Bool.xor_false, Bool.false_eq_true, Bool.not_true, Bool.not_false, if_true, if_false, BitVec.xor_zero]
  · rw [BitVec.xor_assoc]
  · rw [BitVec.xor_assoc, BitVec.xor_assoc, BitVec.xor_comm poly]
  · rw [BitVec.xor_assoc (a >>> 1) poly, ← BitVec.xor_assoc poly (b >>> 1) poly, BitVec.xor_comm poly (b >>> 1), BitVec.xor_assoc (b >>> 1), BitVec.xor_self, BitVec.xor_zero]
def steps : Nat → W → W
  | 0, c => c
  | n + 1, c => step (steps n c)
theorem steps_xor : ∀ (n : Nat) (a b : W), steps n (a ^^^ b) = steps n a ^^^ steps n b
  | 0, a, b => rfl
  | n + 1, a, b => by simp only [steps, steps_xor n, step_xor]
theorem steps_add : ∀ (m n : Nat) (c : W), steps (m + n) c = steps m (steps n c)
  | 0, n, c => by rw [Nat.zero_add]; rfl
  | m + 1, n, c => by rw [show m + 1 + n = (m + n) + 1 by omega, steps, steps_add m n, steps]
/-- The bits of a list go through the register. -/
def b1 (d : Bool) : W := if d then 1#32 else 0#32
/-! Bytes. -/
abbrev Bs := List UInt8
def ofB (b : UInt8) : W := BitVec.ofNat 32 b.toNat
def byteStep (c : W) (b : UInt8) : W := steps 8 (c ^^^ ofB b)
def reg (c : W) (l : Bs) : W := l.foldl byteStep c
theorem reg_append (c : W) (a b : Bs) : reg c (a ++ b) = reg (reg c a) b := by simp [reg]
/-- The sum. -/
def more (s : W) (l : Bs) : W := ~~~ reg (~~~ s) l
def sum (l : Bs) : W := more 0#32 l
def tail (s : W) : Bs := [UInt8.ofNat s.toNat, UInt8.ofNat (s.toNat / 256), UInt8.ofNat (s.toNat / 65536), UInt8.ofNat (s.toNat / 16777216)]
theorem tail_len {s : W} : (tail s).length = 4 := rfl
/-! Halves of bytes. -/
def tbl : List Nat := [0x00000000, 0x1db71064, 0x3b6e20c8, 0x26d930ac, 0x76dc4190, 0x6b6b51f4, 0x4db26158, 0x5005713c, 0xedb88320, 0xf00f9344, 0xd6d6a3e8, 0xcb61b38c, 0x9b64c2b0, 0x86d3d2d4, 0xa00ae278, 0xbdbdf21c]
theorem tbl_ok : ∀ n, n < 16 → steps 4 (BitVec.ofNat 32 n) = BitVec.ofNat 32 (tbl.getD n 0) := by decide
theorem step_even {c : W} (h : c.getLsbD 0 = false) : step c = c >>> 1 := by
  unfold step; rw [h]; simp
theorem half (c : W) : steps 4 c = BitVec.ofNat 32 (tbl.getD (c.toNat % 16) 0) ^^^ (c >>> 4) := by
  have e : c = BitVec.ofNat 32 (c.toNat % 16) ^^^ ((c >>> 4) <<< 4) := by
    apply BitVec.eq_of_getLsbD_eq
    intro i hi
    rw [BitVec.getLsbD_xor, BitVec.getLsbD_ofNat, BitVec.getLsbD_shiftLeft, BitVec.getLsbD_ushiftRight]
    rw [show (16 : Nat) = 2 ^ 4 by rfl, Nat.testBit_mod_two_pow]
    by_cases h : i < 4
    · simp [h, hi]; rfl
    · simp [h, hi, show 4 + (i - 4) = i by omega]
  have e2 : steps 4 ((c >>> 4) <<< 4) = c >>> 4 := by
    have g : ∀ k i, k < 4 → i < 4 - k → (((c >>> 4) <<< 4) >>> k).getLsbD i = false := by
      intro k i hk hi
      rw [BitVec.getLsbD_ushiftRight, BitVec.getLsbD_shiftLeft]
      simp [show k + i < 4 by omega]
    have s1 : step ((c >>> 4) <<< 4) = ((c >>> 4) <<< 4) >>> 1 := step_even (by simp)
    have s2 : step (((c >>> 4) <<< 4) >>> 1) = ((c >>> 4) <<< 4) >>> 2 := by rw [step_even (g 1 0 (by omega) (by omega)), ← BitVec.shiftRight_add]
    have s3 : step (((c >>> 4) <<< 4) >>> 2) = ((c >>> 4) <<< 4) >>> 3 := by rw [step_even (g 2 0 (by omega) (by omega)), ← BitVec.shiftRight_add]
    have s4 : step (((c >>> 4) <<< 4) >>> 3) = ((c >>> 4) <<< 4) >>> 4 := by rw [step_even (g 3 0 (by omega) (by omega)), ← BitVec.shiftRight_add]
    show step (step (step (step ((c >>> 4) <<< 4)))) = _
    rw [s1, s2, s3, s4]
    apply BitVec.eq_of_getLsbD_eq
    intro i hi
    rw [BitVec.getLsbD_ushiftRight, BitVec.getLsbD_shiftLeft, BitVec.getLsbD_ushiftRight]
    by_cases h : 4 + i < 32
    · simp [h, show ¬ 4 + i < 4 by omega, show 4 + i - 4 = i by omega]
    · have : (c >>> 4).getLsbD i = false := by rw [BitVec.getLsbD_ushiftRight]; exact BitVec.getLsbD_of_ge c (4 + i) (by omega)
      rw [this]; simp [h]
  conv => lhs; rw [e]
  rw [steps_xor, e2, tbl_ok _ (Nat.mod_lt _ (by omega))]
end Go.Crc

/- Pages: the plain law. -/
namespace Go.Page
open Go.Num Go.Crc
abbrev Bs := List UInt8
set_option linter.unusedVariables false
set_option linter.unusedSimpArgs false

abbrev maxTag : Nat := 4611686018427387903
def body (tag : Nat) (b : Bs) : Bs := beL tag 8 ++ (UInt8.ofNat b.length :: (b ++ List.replicate (43 - b.length) 0))
def put (tag : Nat) (b : Bs) : Bs := body tag b ++ tail (sum (body tag b)) ++ beL tag 8
theorem body_len {tag : Nat} {b : Bs} (h : b.length ≤ 43) : (body tag b).length = 52 := by
  simp [body, beL_len]; omega
theorem put_len {tag : Nat} {b : Bs} (h : b.length ≤ 43) : (put tag b).length = 64 := by
  simp [put, body_len h, beL_len, tail_len]
theorem put_size {tag : Nat} {b : Bs} : (put tag b)[8]? = some (UInt8.ofNat b.length) := by
  unfold put body
  rw [List.append_assoc, List.append_assoc, List.getElem?_append_right (by simp [beL_len])]
  simp [beL_len]
theorem put_body {tag : Nat} {b : Bs} : ((put tag b).drop 9).take b.length = b := by
  unfold put body
  rw [List.append_assoc, List.append_assoc, List.drop_append, List.drop_of_length_le (by simp [beL_len])]
  simp [beL_len, List.append_assoc]
/-- A sector that is the page of a tag and bytes. -/
def Is (s : Bs) (tag : Nat) (b : Bs) : Prop := b.length ≤ 43 ∧ s = put tag b
theorem Is.bytes {s : Bs} {tag : Nat} {b b' : Bs} (h : Is s tag b) (h' : Is s tag b') : b = b' := by
  have e : put tag b = put tag b' := h.2.symm.trans h'.2
  have e1 := congrArg (fun l : Bs => l[8]?) e
  simp only [put_size, Option.some.injEq] at e1
  have e2 := congrArg UInt8.toNat e1
  have l1 := h.1; have l2 := h'.1
  rw [u8_of (by omega), u8_of (by omega)] at e2
  rw [← put_body (tag := tag) (b := b), ← put_body (tag := tag) (b := b'), e, e2]
/-- The bytes of a page of a tag, if it is one. -/
def get (s : Bs) (tag : Nat) : Option Bs :=
  let n := (s.getD 8 0).toNat
  if n ≤ 43 ∧ put tag ((s.drop 9).take n) = s then some ((s.drop 9).take n) else none
/-! Rows. -/
def row (tag : Nat) (b : Bs) : List Bs :=
  if h : b.length ≤ 42 then [put tag (0 :: b)] else put tag (1 :: b.take 42) :: row (tag + 1) (b.drop 42)
termination_by b.length
decreasing_by simp; omega
def unrow : List Bs → Nat → Option (Bs × Nat)
  | [], _ => none
  | s :: l, tag => match get s tag with
    | some (0 :: x) => some (x, 1)
    | some (1 :: x) => if x.length = 42 then (unrow l (tag + 1)).map fun r => (x ++ r.1, r.2 + 1) else none
    | _ => none
theorem row_len : ∀ (n tag : Nat) (b : Bs), b.length ≤ n → (row tag b).length = max 1 ((b.length + 41) / 42)
  | n, tag, b, hn => by
    rw [row]
    split
    · simp; omega
    · match n, hn with
      | n + 1, hn =>
        rw [List.length_cons, row_len n (tag + 1) (b.drop 42) (by simp; omega)]
        simp; omega
      | 0, hn => omega
theorem row_get : ∀ (n tag : Nat) (b : Bs), b.length ≤ n → ∀ i s, (row tag b)[i]? = some s → s = put (tag + i) ((if i + 1 = (row tag b).length then 0 else 1) :: ((b.drop (42 * i)).take 42)) ∧ s.length = 64
  | n, tag, b, hn, i, s, h => by
    have hlen := row_len n tag b hn
    rw [row] at h
    split at h
    · rename_i hb
      have hi : i = 0 := by cases i with | zero => rfl | succ i => simp at h
      subst hi
      simp at h; subst h
      have : (row tag b).length = 1 := by rw [hlen]; omega
      rw [this]
      have e : b.take 42 = b := List.take_of_length_le (by omega)
      simp [e]
      exact put_len (by simp; omega)
    · rename_i hb
      have hge : 2 ≤ (row tag b).length := by rw [hlen]; omega
      cases i with
      | zero =>
        simp at h; subst h
        rw [if_neg (by omega)]
        refine ⟨by simp, put_len (by simp; omega)⟩
      | succ i =>
        match n, hn with
        | n + 1, hn =>
          have h' : (row (tag + 1) (b.drop 42))[i]? = some s := by simpa using h
          obtain ⟨e1, e2⟩ := row_get n (tag + 1) (b.drop 42) (by simp; omega) i s h'
          refine ⟨?_, e2⟩
          have el : (row tag b).length = (row (tag + 1) (b.drop 42)).length + 1 := by
            rw [row, dif_neg hb]; rfl
          rw [e1, el, List.drop_drop]
          rw [show tag + 1 + i = tag + (i + 1) by omega, show 42 + 42 * i = 42 * (i + 1) by omega]
          by_cases hc : i + 1 = (row (tag + 1) (b.drop 42)).length
          · rw [if_pos hc, if_pos (by omega)]
          · rw [if_neg hc, if_neg (by omega)]
        | 0, hn => omega
end Go.Page

/- Segments: the plain law. -/
namespace Go.Seg
open Go.Num hiding Bs
open Go.Ent Go.Page
set_option linter.unusedVariables false
set_option linter.unusedSimpArgs false

def headsG (gs : Gs) : List Ent := gs.filterMap List.head?
theorem headsG_cons {g : List Ent} {e : Ent} {l : List Ent} {gs : Gs} (h : g = e :: l) : headsG (g :: gs) = e :: headsG gs := by subst h; rfl
theorem headsG_len : ∀ {gs : Gs}, (∀ g ∈ gs, g ≠ []) → (headsG gs).length = gs.length
  | [], _ => rfl
  | g :: gs, h => by
    cases hg : g with
    | nil => exact absurd hg (h g (by simp))
    | cons e l => rw [headsG_cons rfl, List.length_cons, headsG_len fun x hx => h x (by simp [hx]), List.length_cons]
theorem headsG_mem {gs : Gs} {e : Ent} (h : e ∈ headsG gs) : ∃ g ∈ gs, e ∈ g := by
  obtain ⟨g, hg, he⟩ := List.mem_filterMap.1 h
  exact ⟨g, hg, List.mem_of_mem_head? he⟩
theorem headsG_append {a b : Gs} : headsG (a ++ b) = headsG a ++ headsG b := by simp [headsG]
/-- The bytes of a segment's pages. -/
def countB (a b c : Nat) : Bs := numB a ++ numB b ++ numB c
def idx (l : List Ent) : Gs := packG (headsG (packG l))
def pagesB (l : List Ent) : List Bs := (packG l).map encL ++ (idx l).map encL ++ [countB l.length (packG l).length (idx l).length]
/-- Bytes as pages, from a tag on. -/
def putAll : Nat → List Bs → List Bs
  | _, [] => []
  | t, b :: l => put t b :: putAll (t + 1) l
theorem putAll_len : ∀ (t : Nat) (l : List Bs), (putAll t l).length = l.length
  | _, [] => rfl
  | t, b :: l => by simp [putAll, putAll_len]
theorem putAll_get : ∀ (t : Nat) (l : List Bs) (i : Nat), (putAll t l)[i]? = (l[i]?).map (put (t + i))
  | _, [], i => by simp [putAll]
  | t, b :: l, 0 => by simp [putAll]
  | t, b :: l, i + 1 => by
    rw [putAll, List.getElem?_cons_succ, List.getElem?_cons_succ, putAll_get (t + 1) l i]
    congr 2; omega
theorem putAll_append : ∀ (t : Nat) (l m : List Bs), putAll t (l ++ m) = putAll t l ++ putAll (t + l.length) m
  | t, [], m => by simp [putAll]
  | t, b :: l, m => by
    simp only [List.cons_append, putAll, putAll_append (t + 1) l m, List.length_cons]
    congr 3; omega
def sectors (base : Nat) (l : List Ent) : List Bs := putAll base (pagesB l)
def baseOk (base : Int) : Bool := decide (1 ≤ base ∧ base ≤ 2305843009213693952)

theorem idx_ok {l : List Ent} (hok : ∀ e ∈ l, entOk e = true) : ∀ e ∈ headsG (packG l), entOk e = true := fun e he => by
  obtain ⟨g, hg, h⟩ := headsG_mem he
  exact packG_ok hok g hg e h
theorem idx_len {l : List Ent} (hok : ∀ e ∈ l, entOk e = true) : (idx l).length ≤ (packG l).length := by
  have := packG_len (idx_ok hok)
  rwa [headsG_len fun g hg => (packG_fit hok g hg).1] at this
theorem numB_short {n : Nat} (h : n < 1048576) : (numB n).length ≤ 4 := numB_len3 h
theorem pagesB_fit {l : List Ent} (hok : ∀ e ∈ l, entOk e = true) (hl : l.length ≤ 16384) : ∀ b ∈ pagesB l, b.length ≤ 43 := by
  intro b hb
  have h1 := packG_len hok
  have h2 := idx_len hok
  rcases List.mem_append.1 hb with hb | hb
  · rcases List.mem_append.1 hb with hb | hb
    · obtain ⟨g, hg, rfl⟩ := List.mem_map.1 hb
      exact (packG_fit hok g hg).2
    · obtain ⟨g, hg, rfl⟩ := List.mem_map.1 hb
      exact (packG_fit (idx_ok hok) g hg).2
  · simp at hb; subst hb
    have g1 := numB_short (n := l.length) (by omega)
    have g2 := numB_short (n := (packG l).length) (by omega)
    have g3 := numB_short (n := (idx l).length) (by omega)
    simp only [countB, List.length_append]; omega
theorem pagesB_len {l : List Ent} : (pagesB l).length = (packG l).length + (idx l).length + 1 := by simp [pagesB]; omega
theorem sectors_len {base : Nat} {l : List Ent} : (sectors base l).length = (packG l).length + (idx l).length + 1 := by rw [sectors, putAll_len, pagesB_len]
theorem sectors_get {base : Nat} {l : List Ent} {i : Nat} {s : Bs} (h : (sectors base l)[i]? = some s) : ∃ b ∈ pagesB l, (pagesB l)[i]? = some b ∧ s = put (base + i) b := by
  unfold sectors at h
  rw [putAll_get] at h
  obtain ⟨b, hb, rfl⟩ := Option.map_eq_some_iff.1 h
  exact ⟨b, List.mem_of_getElem? hb, hb, rfl⟩

section
variable {base : Nat} {l : List Ent}
end
end Go.Seg

/- Segments of which bits are turned: the plain law. -/
namespace Go.Seg
open Go.Num hiding Bs
open Go.Ent Go.Page
set_option linter.unusedVariables false
set_option linter.unusedSimpArgs false

section
variable {base : Nat} {l : List Ent} {i : Nat} {s' : Bs}
end
end Go.Seg

/- The last page whose first entry comes ahead of another one: where a sorted list is cut. -/
namespace Go.Seg
open Go.Ent
set_option linter.unusedVariables false
set_option linter.unusedSimpArgs false
end Go.Seg

/- Pages of entries: how many there are. -/
namespace Go.Seg
open Go.Num hiding Bs snoc_ind
open Go.Ent Go.Page
set_option linter.unusedVariables false
set_option linter.unusedSimpArgs false
end Go.Seg
