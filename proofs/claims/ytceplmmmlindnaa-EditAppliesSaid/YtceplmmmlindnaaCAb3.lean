/- What each operation asks of the abstract heap, and what it hands on (in the style of continuations). Definitions alone. -/
import Derived.Test.YtceplmmmlindnaaCAb2
namespace Go.Ab
set_option linter.unusedSimpArgs false
set_option linter.unusedVariables false

/-- A condition, then the rest. -/
def need (b : Bool) (A : Prop) : Prop := match b with | true => A | false => False

/-- Values of the shape of some given ones. -/
def exL : List AV → (List AV → Prop) → Prop
  | [], K => K []
  | .int k _ :: zs, K => ∃ n : Int, exL zs fun l => K (.int k n :: l)
  | .bool _ :: zs, K => ∃ b : Bool, exL zs fun l => K (.bool b :: l)
  | .str _ :: zs, K => ∃ s : List UInt8, exL zs fun l => K (.str s :: l)
  | .ptr _ :: zs, K => ∃ p : Option PA, exL zs fun l => K (.ptr p :: l)
  | .sl _ :: zs, K => ∃ s : Option SL, exL zs fun l => K (.sl s :: l)
  | .map _ :: zs, K => ∃ m : Option Nat, exL zs fun l => K (.map m :: l)
  | _ :: zs, K => ∃ v : AV, v.one = true ∧ exL zs fun l => K (v :: l)
def allL : List AV → (List AV → Prop) → Prop
  | [], K => K []
  | .int k _ :: zs, K => ∀ n : Int, allL zs fun l => K (.int k n :: l)
  | .bool _ :: zs, K => ∀ b : Bool, allL zs fun l => K (.bool b :: l)
  | .str _ :: zs, K => ∀ s : List UInt8, allL zs fun l => K (.str s :: l)
  | .ptr _ :: zs, K => ∀ p : Option PA, allL zs fun l => K (.ptr p :: l)
  | .sl _ :: zs, K => ∀ s : Option SL, allL zs fun l => K (.sl s :: l)
  | .map _ :: zs, K => ∀ m : Option Nat, allL zs fun l => K (.map m :: l)
  | _ :: zs, K => ∀ v : AV, v.one = true → allL zs fun l => K (v :: l)
def exT : List AV → (List AV → Prop) → Prop
  | [], K => K []
  | .agg zs :: vs, K => exL zs fun l => exT vs fun r => K (.agg l :: r)
  | z :: vs, K => exL [z] fun l => exT vs fun r => K (l ++ r)
def exV : AV → (AV → Prop) → Prop
  | .agg zs, K => exL zs fun l => K (.agg l)
  | .tup vs, K => exT vs fun l => K (.tup l)
  | z, K => exL [z] fun l => match l with | [x] => K x | _ => False

section
variable (P : Program)
def tsz (t : TypeId) : Nat := P.cellsOf t
def tbytes (t : TypeId) : Nat := P.bytesOf t
def tagg (t : TypeId) : Bool := match P.underlying t with | some (.struct _) | some (.array _ _) => true | _ => false
def tz (t : TypeId) : Option AV := ((P.info? t).bind (·.zero)).bind (ofV 4)
def telem (t : TypeId) : Option TypeId := match P.underlying t with | some (.slice e) => some e | _ => none
end

/-- n cells at a place. -/
def cellsAt (h : Heap) (p : PA) (n : Nat) : Option (List AV) :=
  match h[p.b]? with
  | some (.cells c _) => if p.o + n ≤ c.length then some ((c.drop p.o).take n) else none
  | _ => none

def PLoad (z : AV) (h : Heap) (p : PA) (K : AV → Prop) : Prop := exV z fun v => cellsAt h p z.cells.length = some v.cells ∧ K v

def PStore (h : Heap) (p : PA) (xs : List AV) (K : Heap → Prop) : Prop :=
  match h[p.b]? with
  | some (.cells c true) => p.o + xs.length ≤ c.length ∧ K (h.set p.b (.cells (splice c p.o xs) true))
  | _ => False

def vPtr (q : Option PA) (K : PA → Prop) : Prop := match q with | some p => K p | none => False
def slLen (s : Option SL) : Nat := match s with | some s => s.len | none => 0
def vIdx (s : Option SL) (i : Int) (sz : Nat) (K : PA → Prop) : Prop :=
  match s with
  | some s => 0 ≤ i ∧ i < s.len ∧ K ⟨s.b, s.o + i.toNat * sz⟩
  | none => False

/-- Cells of a slice's elements, n of them. -/
def slCells (h : Heap) (s : Option SL) (n : Nat) : Option (List AV) :=
  match s with
  | some s => cellsAt h ⟨s.b, s.o⟩ n
  | none => if n = 0 then some [] else none

/-- append: n elements, their cells; how many bytes an element has. -/
def PAppend (sz bytes : Nat) (s : Option SL) (n : Nat) (xs : List AV) (h : Heap) (K : Option SL → Heap → Prop) : Prop :=
  xs.length = n * sz ∧
  match s with
  | none =>
    if n = 0 then K none h
    else n * bytes ≤ 140737488355328 ∧ 0 < sz ∧ K (some ⟨h.length, 0, n, n, sz⟩) (h ++ [.cells xs true])
  | some s =>
    if s.len + n ≤ s.cap then
      match h[s.b]? with
      | some (.cells c true) => s.o + s.len * sz + xs.length ≤ c.length ∧ K (some { s with len := s.len + n }) (h.set s.b (.cells (splice c (s.o + s.len * sz) xs) true))
      | _ => n = 0 ∧ K (some s) h
    else
      (s.len + n) * bytes ≤ 140737488355328 ∧ 0 < sz ∧
      match cellsAt h ⟨s.b, s.o⟩ (s.len * sz), h[s.b]? with
      | some old, some (.cells _ rw) =>
        if s.opn = 0 then K (some ⟨h.length, 0, s.len + n, s.len + n, sz⟩) (h ++ [.cells (old ++ xs) true])
        else rw = true ∧ s.opn = sz ∧ K (some ⟨h.length, 0, s.len + n, s.len + n, sz⟩) (h.set s.b .dead ++ [.cells (old ++ xs) true])
      | _, _ => False

/-- copy: into a slice. -/
def PCopy (sz : Nat) (s : Option SL) (n : Nat) (xs : List AV) (h : Heap) (K : Heap → Prop) : Prop :=
  xs.length = n * sz ∧
  match s with
  | none => n = 0 ∧ K h
  | some s => n ≤ s.len ∧ PStore h ⟨s.b, s.o⟩ xs K

def byteAVs (l : List UInt8) : List AV := l.map fun b => .int .u8 b.toNat

def maxI : Int := 9223372036854775807

/-- s[lo:hi:mx] -/
def PSlice (sz : Nat) (s : Option SL) (lo : Int) (hi mx : Option Int) (K : Option SL → Prop) : Prop :=
  match s with
  | none => lo = 0 ∧ (hi.getD 0) = 0 ∧ (mx.getD 0) = 0 ∧ K none
  | some s =>
    (s.opn = 0 ∨ s.opn = sz) ∧ 0 ≤ lo ∧ lo ≤ hi.getD s.len ∧ hi.getD s.len ≤ mx.getD s.cap ∧ mx.getD s.cap ≤ s.cap ∧
      K (some ⟨s.b, s.o + lo.toNat * sz, (hi.getD s.len - lo).toNat, (mx.getD s.cap - lo).toNat, if mx.isNone then s.opn else 0⟩)

def strSlice (s : List UInt8) (lo : Int) (hi : Option Int) (K : List UInt8 → Prop) : Prop :=
  0 ≤ lo ∧ lo ≤ hi.getD s.length ∧ hi.getD s.length ≤ s.length ∧ K ((s.take (hi.getD s.length).toNat).drop lo.toNat)

def bytesLess : List UInt8 → List UInt8 → Bool := Op.bytesLess

def wrapK (k : IntKind) (n : Int) : Int := k.wrap n
def bitsAnd (k : IntKind) (x y : Int) : Int := k.wrap (BitVec.ofInt k.bits x &&& BitVec.ofInt k.bits y).toNat
def bitsOr (k : IntKind) (x y : Int) : Int := k.wrap (BitVec.ofInt k.bits x ||| BitVec.ofInt k.bits y).toNat
def bitsXor (k : IntKind) (x y : Int) : Int := k.wrap (BitVec.ofInt k.bits x ^^^ BitVec.ofInt k.bits y).toNat
def bitsAndNot (k : IntKind) (x y : Int) : Int := k.wrap (BitVec.ofInt k.bits x &&& ~~~BitVec.ofInt k.bits y).toNat
def shlK (k : IntKind) (x y : Int) : Int := k.wrap (x * 2 ^ min y.toNat k.bits)
def shrK (k : IntKind) (x y : Int) : Int := x.fdiv (2 ^ min y.toNat k.bits)

def aInt (op : BinOp) (k : IntKind) (a b : Int) (K : AV → Prop) : Prop :=
  match op with
  | .add => K (.int k (wrapK k (a + b)))
  | .sub => K (.int k (wrapK k (a - b)))
  | .mul => K (.int k (wrapK k (a * b)))
  | .quo => need (!(b == 0)) (K (.int k (wrapK k (a.tdiv b))))
  | .rem => need (!(b == 0)) (K (.int k (a.tmod b)))
  | .and => K (.int k (bitsAnd k a b))
  | .or => K (.int k (bitsOr k a b))
  | .xor => K (.int k (bitsXor k a b))
  | .andNot => K (.int k (bitsAndNot k a b))
  | .eql => K (.bool (a == b))
  | .neq => K (.bool (a != b))
  | .lss => K (.bool (decide (a < b)))
  | .leq => K (.bool (decide (a ≤ b)))
  | .gtr => K (.bool (decide (a > b)))
  | .geq => K (.bool (decide (a ≥ b)))
  | _ => False

def aStr (op : BinOp) (a b : List UInt8) (K : AV → Prop) : Prop :=
  match op with
  | .add => need (decide (a.length + b.length ≤ 9223372036854775807)) (K (.str (a ++ b)))
  | .eql => K (.bool (a == b))
  | .neq => K (.bool (!(a == b)))
  | .lss => K (.bool (bytesLess a b))
  | .leq => K (.bool (bytesLess a b || a == b))
  | .gtr => K (.bool (!(bytesLess a b || a == b)))
  | .geq => K (.bool (!bytesLess a b))
  | _ => False

/-- Cells that are compared by a type: numbers, bools, strings, structs of such. -/
def eqFs (P : Program) (eqT : TypeId → List AV → List AV → (Bool → List AV → List AV → Prop) → Prop) : List Field → Nat → List AV → List AV → (Bool → List AV → List AV → Prop) → Prop
  | [], _, xs, ys, K => K true xs ys
  | f :: fs, off, xs, ys, K =>
    need (f.offset == off && f.name != "_" && decide (0 < tsz P f.type) && decide (tsz P f.type ≤ xs.length) && decide (tsz P f.type ≤ ys.length) && (P.info? f.type).isSome && (P.underlying f.type).isSome)
      (eqT f.type xs ys fun b xs' ys' => eqFs P eqT fs (off + tsz P f.type) xs' ys' fun r xs'' ys'' => K (b && r) xs'' ys'')
def eqT (P : Program) : Nat → TypeId → List AV → List AV → (Bool → List AV → List AV → Prop) → Prop
  | 0, _, _, _, _ => False
  | n + 1, t, xs, ys, K =>
    match P.underlying t, xs, ys with
    | some (.int _), .int k a :: xs, .int k' b :: ys => need (decide (k = k') && tsz P t == 1) (K (a == b) xs ys)
    | some .bool, .bool a :: xs, .bool b :: ys => need (tsz P t == 1) (K (a == b) xs ys)
    | some .string, .str a :: xs, .str b :: ys => need (tsz P t == 1) (K (a == b) xs ys)
    | some (.struct fs), xs, ys =>
      need (!P.stoodInHeld t) (eqFs P (eqT P n) fs.toList 0 (xs.take (tsz P t)) (ys.take (tsz P t)) fun b xs' ys' => need (xs'.isEmpty && ys'.isEmpty) (K b (xs.drop (tsz P t)) (ys.drop (tsz P t))))
    | _, _, _ => False

/-- Two pointers that are not nil, at a type of some cells. -/
def ptrEq (h : Heap) (p q : PA) (K : Bool → Prop) : Prop :=
  if p.b = q.b then K (p.o == q.o)
  else match h[p.b]?, h[q.b]? with
    | some (.cells _ true), some (.cells _ true) => K false
    | _, _ => False

def aEq (P : Program) (t : TypeId) (h : Heap) (x y : AV) (K : Bool → Prop) : Prop :=
  match P.underlying t, x, y with
  | some .bool, .bool a, .bool b => K (a == b)
  | some (.struct _), .agg xs, .agg ys => need (!P.eqGuardType P.depth t && xs.length == tsz P t && ys.length == tsz P t) (eqT P 50 t xs ys fun b _ _ => K b)
  | some (.pointer _), .ptr p, .ptr none => K p.isNone
  | some (.pointer _), .ptr none, .ptr (some _) => K false
  | some (.pointer e), .ptr (some p), .ptr (some q) => need (decide (0 < tsz P e)) (ptrEq h p q K)
  | some (.slice _), .sl s, .sl none => K s.isNone
  | some (.map _ _), .map s, .map none => K s.isNone
  | some (.func _ _ _), .nilfunc, .nilfunc => K true
  | some (.func _ _ _), .func _ _ _, .nilfunc => K false
  | _, _, _ => False

def aIntS (op : BinOp) (k : IntKind) (a : Int) (k' : IntKind) (b : Int) (K : AV → Prop) : Prop :=
  match op with
  | .shl => need (decide (0 ≤ b)) (K (.int k (shlK k a b)))
  | .shr => need (decide (0 ≤ b)) (K (.int k (shrK k a b)))
  | op => need (decide (k = k')) (aInt op k a b K)

def aCmp (P : Program) (op : BinOp) (t : TypeId) (h : Heap) (x y : AV) (K : AV → Prop) : Prop :=
  match op with
  | .eql => aEq P t h x y fun b => K (.bool b)
  | .neq => aEq P t h x y fun b => K (.bool (!b))
  | _ => False

def aBin (P : Program) (op : BinOp) (t : TypeId) (h : Heap) (x y : AV) (K : AV → Prop) : Prop :=
  match x, y with
  | .int k a, .int k' b => aIntS op k a k' b K
  | .str a, .str b => aStr op a b K
  | x, y => aCmp P op t h x y K

theorem aBin_else {P : Program} {op : BinOp} {t : TypeId} {h : Heap} {x y : AV} {K : AV → Prop} (h1 : ∀ k a k' b, x = .int k a → y = .int k' b → False) (h2 : ∀ a b, x = .str a → y = .str b → False) :
    aBin P op t h x y K = aCmp P op t h x y K := by
  cases x <;> cases y <;> first | rfl | exact (h1 _ _ _ _ rfl rfl).elim | exact (h2 _ _ rfl rfl).elim

def aUn (op : UnOp) (x : AV) (K : AV → Prop) : Prop :=
  match op, x with
  | .neg, .int k n => K (.int k (wrapK k (0 - n)))
  | .xor, .int k n => K (.int k (bitsXor k (if k.signed then -1 else k.max) n))
  | .not, .bool b => K (.bool (!b))
  | _, _ => False

/-- The number of a field, and where it lies. -/
def fieldOff (P : Program) (s : TypeId) (f : Nat) : Option (Nat × TypeId) :=
  match P.underlying s with
  | some (.struct fs) => (fs[f]?).map fun f => (f.offset, f.type)
  | _ => none

def ev (ρ : List LV) : Operand → LV
  | .tmp t => ρ.getD t .top
  | .const v => match ofV 4 v with | some x => .val x | none => .top
  | .global _ => .top
  | .func f => .val (.func (.func f) [] [])

def vals (ρ : List LV) : List Operand → Option (List AV)
  | [] => some []
  | o :: os => match ev ρ o, vals ρ os with
    | .val x, some l => some (x :: l)
    | _, _ => none

/-- Parts laid into cells. -/
def fillA (place : Nat → Option (Nat × Nat)) (cells : List AV) : List (Nat × AV) → Option (List AV)
  | [] => some cells
  | (i, v) :: rest =>
    match place i with
    | none => none
    | some (off, size) => if v.cells.length ≠ size ∨ off + v.cells.length > cells.length then none else fillA place (splice cells off v.cells) rest

def partsA (ρ : List LV) (ps : Array (Nat × Operand)) : Option (List (Nat × AV)) :=
  (vals ρ (ps.toList.map (·.2))).map fun l => (ps.toList.map (·.1)).zip l

end Go.Ab
