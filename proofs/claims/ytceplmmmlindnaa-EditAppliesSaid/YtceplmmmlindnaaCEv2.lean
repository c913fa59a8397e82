/- Running the abstract machine by the kernel: what an operation does. Definitions alone. -/
import Derived.Test.YtceplmmmlindnaaCEv1
namespace Go.Ab
set_option linter.unusedVariables false

/-- The heap as a tree, and how many blocks it has. -/
structure EH where
  t : T Blk
  n : Nat

abbrev EK := LV → EH → Bool
abbrev ECall := FuncId → List AV → EH → (AV → EH → Bool) → Bool

def eev (ρ : T LV) : Operand → LV
  | .tmp t => match ρ.get t with | some v => v | none => .top
  | .const v => match ofV 4 v with | some x => .val x | none => .top
  | .global _ => .top
  | .func f => .val (.func (.func f) [] [])
def evals (ρ : T LV) : List Operand → Option (List AV)
  | [] => some []
  | o :: os => match eev ρ o with
    | .val x => (match evals ρ os with | some l => some (x :: l) | none => none)
    | _ => none
def eevI (ρ : T LV) (x : Operand) : Option Int := match eev ρ x with | .val (.int _ n) => some n | _ => none
def eoptI (ρ : T LV) : Option Operand → Option (Option Int)
  | none => some none
  | some x => (eevI ρ x).map some

/-- The list forced to its bones. -/
def fVals (ρ : T LV) : List Operand → (List AV → Bool) → Bool
  | [], k => k []
  | o :: os, k => match eev ρ o with
    | .val x => fVals ρ os fun l => k (x :: l)
    | _ => false

def eNew (c : List AV) (rw : Bool) (h : EH) (k : Nat → EH → Bool) : Bool := h.t.add h.n (.cells c rw) fun t' => fN (Nat.succ h.n) fun n' => k h.n ⟨t', n'⟩
def eCells (h : EH) (b o n : Nat) (k : List AV → Bool) : Bool := match h.t.get b with | some (.cells c _) => tk c o n k | _ => false
def ePart (z : AV) (c : List AV) (o : Nat) (k : AV → Bool) : Bool :=
  match z with
  | .agg zs => tk c o zs.length fun l => k (.agg l)
  | .tup _ => false
  | _ => at1 c o k
def eLoad (z : AV) (h : EH) (b o : Nat) (k : AV → Bool) : Bool :=
  match h.t.get b with
  | some (.cells c _) => (match z with
    | .agg zs => tk c o zs.length fun l => sameShapes zs l && k (.agg l)
    | .tup _ => false
    | z => at1 c o fun v => sameShape z v && k v)
  | _ => false
def eStore (h : EH) (b o : Nat) (xs : List AV) (k : EH → Bool) : Bool :=
  match h.t.get b with
  | some (.cells c true) => spl c o xs fun c' => h.t.put b (.cells c' true) fun t' => k ⟨t', h.n⟩
  | _ => false

def eint (k : IntKind) (n : Int) (K : AV → Bool) : Bool := fI (wrapK k n) fun m => K (.int k m)
def ebool (b : Bool) (K : AV → Bool) : Bool := match b with | true => K (.bool true) | false => K (.bool false)

def eInt (op : BinOp) (k : IntKind) (a b : Int) (K : AV → Bool) : Bool :=
  match op with
  | .add => eint k (a + b) K
  | .sub => eint k (a - b) K
  | .mul => eint k (a * b) K
  | .quo => !(b == 0) && eint k (a.tdiv b) K
  | .rem => !(b == 0) && fI (a.tmod b) fun m => K (.int k m)
  | .and => fI (bitsAnd k a b) fun m => K (.int k m)
  | .or => fI (bitsOr k a b) fun m => K (.int k m)
  | .xor => fI (bitsXor k a b) fun m => K (.int k m)
  | .andNot => fI (bitsAndNot k a b) fun m => K (.int k m)
  | .eql => ebool (a == b) K
  | .neq => ebool (a != b) K
  | .lss => ebool (decide (a < b)) K
  | .leq => ebool (decide (a ≤ b)) K
  | .gtr => ebool (decide (a > b)) K
  | .geq => ebool (decide (a ≥ b)) K
  | _ => false
def eIntS (op : BinOp) (k : IntKind) (a : Int) (k' : IntKind) (b : Int) (K : AV → Bool) : Bool :=
  match op with
  | .shl => decide (0 ≤ b) && fI (shlK k a b) fun m => K (.int k m)
  | .shr => decide (0 ≤ b) && fI (shrK k a b) fun m => K (.int k m)
  | op => decide (k = k') && eInt op k a b K
def eStr (op : BinOp) (a b : List UInt8) (K : AV → Bool) : Bool :=
  match op with
  | .add => decide (a.length + b.length ≤ 9223372036854775807) && ap a b fun s => K (.str s)
  | .eql => ebool (a == b) K
  | .neq => ebool (!(a == b)) K
  | .lss => ebool (bytesLess a b) K
  | .leq => ebool (bytesLess a b || a == b) K
  | .gtr => ebool (!(bytesLess a b || a == b)) K
  | .geq => ebool (!bytesLess a b) K
  | _ => false

def eeqFs (P : Program) (eqT : TypeId → List AV → List AV → (Bool → List AV → List AV → Bool) → Bool) : List Field → Nat → List AV → List AV → (Bool → List AV → List AV → Bool) → Bool
  | [], _, xs, ys, K => K true xs ys
  | f :: fs, off, xs, ys, K =>
    (f.offset == off && f.name != "_" && decide (0 < tsz P f.type) && decide (tsz P f.type ≤ xs.length) && decide (tsz P f.type ≤ ys.length) && (P.info? f.type).isSome && (P.underlying f.type).isSome) &&
      eqT f.type xs ys fun b xs' ys' => eeqFs P eqT fs (off + tsz P f.type) xs' ys' fun r xs'' ys'' => K (b && r) xs'' ys''
def eeqT (P : Program) : Nat → TypeId → List AV → List AV → (Bool → List AV → List AV → Bool) → Bool
  | 0, _, _, _, _ => false
  | n + 1, t, xs, ys, K =>
    match P.underlying t, xs, ys with
    | some (.int _), .int k a :: xs, .int k' b :: ys => (decide (k = k') && tsz P t == 1) && K (a == b) xs ys
    | some .bool, .bool a :: xs, .bool b :: ys => (tsz P t == 1) && K (a == b) xs ys
    | some .string, .str a :: xs, .str b :: ys => (tsz P t == 1) && K (a == b) xs ys
    | some (.struct fs), xs, ys =>
      (!P.stoodInHeld t) && eeqFs P (eeqT P n) fs.toList 0 (xs.take (tsz P t)) (ys.take (tsz P t)) fun b xs' ys' => (xs'.isEmpty && ys'.isEmpty) && K b (xs.drop (tsz P t)) (ys.drop (tsz P t))
    | _, _, _ => false

def eptrEq (h : EH) (p q : PA) (K : Bool → Bool) : Bool :=
  match Nat.beq p.b q.b with
  | true => K (p.o == q.o)
  | false => match h.t.get p.b, h.t.get q.b with
    | some (.cells _ true), some (.cells _ true) => K false
    | _, _ => false

def eEq (P : Program) (t : TypeId) (h : EH) (x y : AV) (K : Bool → Bool) : Bool :=
  match P.underlying t, x, y with
  | some .bool, .bool a, .bool b => K (a == b)
  | some (.struct _), .agg xs, .agg ys => (!P.eqGuardType P.depth t && xs.length == tsz P t && ys.length == tsz P t) && eeqT P 50 t xs ys fun b _ _ => K b
  | some (.pointer _), .ptr p, .ptr none => K p.isNone
  | some (.pointer _), .ptr none, .ptr (some _) => K false
  | some (.pointer e), .ptr (some p), .ptr (some q) => decide (0 < tsz P e) && eptrEq h p q K
  | some (.slice _), .sl s, .sl none => K s.isNone
  | some (.map _ _), .map s, .map none => K s.isNone
  | some (.func _ _ _), .nilfunc, .nilfunc => K true
  | some (.func _ _ _), .func _ _ _, .nilfunc => K false
  | _, _, _ => false

def eCmp (P : Program) (op : BinOp) (t : TypeId) (h : EH) (x y : AV) (K : AV → Bool) : Bool :=
  match op with
  | .eql => eEq P t h x y fun b => ebool b K
  | .neq => eEq P t h x y fun b => ebool (!b) K
  | _ => false
def eBin (P : Program) (op : BinOp) (t : TypeId) (h : EH) (x y : AV) (K : AV → Bool) : Bool :=
  match x, y with
  | .int k a, .int k' b => eIntS op k a k' b K
  | .str a, .str b => eStr op a b K
  | x, y => eCmp P op t h x y K
def eUn (op : UnOp) (x : AV) (K : AV → Bool) : Bool :=
  match op, x with
  | .neg, .int k n => eint k (0 - n) K
  | .xor, .int k n => fI (bitsXor k (if k.signed then -1 else k.max) n) fun m => K (.int k m)
  | .not, .bool b => ebool (!b) K
  | _, _ => false

def eslCells (h : EH) (s : Option SL) (n : Nat) (k : List AV → Bool) : Bool :=
  match s with
  | some s => eCells h s.b s.o n k
  | none => match n with | 0 => k [] | _ + 1 => false

/-- A new slice over a new block. -/
def eRow (b o len cap opn : Nat) (k : Option SL → Bool) : Bool := fN b fun b => fN o fun o => fN len fun len => fN cap fun cap => fN opn fun opn => k (some ⟨b, o, len, cap, opn⟩)

def eAppend (sz bytes : Nat) (s : Option SL) (n : Nat) (xs : List AV) (h : EH) (k : Option SL → EH → Bool) : Bool :=
  (xs.length == n * sz) &&
  match s with
  | none => (match n with
    | 0 => k none h
    | n + 1 => (decide ((n + 1) * bytes ≤ 140737488355328) && decide (0 < sz)) && eNew xs true h fun b h' => eRow b 0 (n + 1) (n + 1) sz fun s' => k s' h')
  | some s =>
    match Nat.ble (s.len + n) s.cap with
    | true => (match h.t.get s.b with
      | some (.cells c true) => spl c (s.o + s.len * sz) xs fun c' => h.t.put s.b (.cells c' true) fun t' => eRow s.b s.o (s.len + n) s.cap s.opn fun s' => k s' ⟨t', h.n⟩
      | some (.cells _ false) => (match n with | 0 => k (some s) h | _ + 1 => false)
      | some (.mp _ _) => (match n with | 0 => k (some s) h | _ + 1 => false)
      | some (.it _ _ _ _) => (match n with | 0 => k (some s) h | _ + 1 => false)
      | some (.bx _) => (match n with | 0 => k (some s) h | _ + 1 => false)
      | some .dead => (match n with | 0 => k (some s) h | _ + 1 => false)
      | none => (match n with | 0 => k (some s) h | _ + 1 => false))
    | false => (decide ((s.len + n) * bytes ≤ 140737488355328) && decide (0 < sz)) &&
      match h.t.get s.b with
      | some (.cells c rw) => tk c s.o (s.len * sz) fun old =>
        (match s.opn with
        | 0 => ap old xs fun c' => eNew c' true h fun b h' => eRow b 0 (s.len + n) (s.len + n) sz fun s' => k s' h'
        | _ + 1 => (rw && s.opn == sz) && h.t.put s.b .dead fun t' => ap old xs fun c' => eNew c' true ⟨t', h.n⟩ fun b h' => eRow b 0 (s.len + n) (s.len + n) sz fun s' => k s' h')
      | _ => false

def eCopy (sz : Nat) (s : Option SL) (n : Nat) (xs : List AV) (h : EH) (k : EH → Bool) : Bool :=
  (xs.length == n * sz) &&
  match s with
  | none => (match n with | 0 => k h | _ + 1 => false)
  | some s => Nat.ble n s.len && eStore h s.b s.o xs k

def eSlice (sz : Nat) (s : Option SL) (lo : Int) (hi mx : Option Int) (k : Option SL → Bool) : Bool :=
  match s with
  | none => (lo == 0 && hi.getD 0 == 0 && mx.getD 0 == 0) && k none
  | some s =>
    ((s.opn == 0 || s.opn == sz) && decide (0 ≤ lo) && decide (lo ≤ hi.getD s.len) && decide (hi.getD s.len ≤ mx.getD s.cap) && decide (mx.getD s.cap ≤ s.cap)) &&
      eRow s.b (s.o + lo.toNat * sz) (hi.getD s.len - lo).toNat (mx.getD s.cap - lo).toNat (if mx.isNone then s.opn else 0) k
def estrSlice (s : List UInt8) (lo : Int) (hi : Option Int) (k : List UInt8 → Bool) : Bool :=
  (decide (0 ≤ lo) && decide (lo ≤ hi.getD s.length) && decide (hi.getD s.length ≤ s.length)) && tk s lo.toNat ((hi.getD s.length).toNat - lo.toNat) k

/-- The bytes of some cells. -/
def eBytes : List AV → (List UInt8 → Bool) → Bool
  | [], k => k []
  | .int .u8 n :: l, k => match n with
    | .ofNat m => Nat.blt m 256 && eBytes l fun r => k (UInt8.ofNat m :: r)
    | .negSucc _ => false
  | _ :: _, _ => false
def fBytes : List UInt8 → (List AV → Bool) → Bool
  | [], k => k []
  | b :: l, k => fN b.toNat fun n => fBytes l fun r => k (.int .u8 (.ofNat n) :: r)

def eMake (zs : List AV) (bytes : Nat) (l c : Int) (h : EH) (k : Option SL → EH → Bool) : Bool :=
  (decide (0 ≤ l) && decide (l ≤ c) && decide (c * bytes ≤ 281474976710656) && decide (c ≤ maxI)) &&
    fL (List.replicate c.toNat zs).flatten fun cs => eNew cs true h fun b h' => eRow b 0 l.toNat c.toNat 0 fun s => k s h'

def eminL : List AV → (AV → Bool) → Bool
  | [.int k a], K => K (.int k a)
  | [.int k a, .int k' b], K => decide (k = k') && fI (minI a b) fun m => K (.int k m)
  | _, _ => false
def emaxL : List AV → (AV → Bool) → Bool
  | [.int k a], K => K (.int k a)
  | [.int k a, .int k' b], K => decide (k = k') && fI (maxI2 a b) fun m => K (.int k m)
  | _, _ => false

def ekeyIs (P : Program) (kt : TypeId) (a b : AV) : Option Bool :=
  match P.underlying kt, a, b with
  | some (.int _), .int k x, .int k' y => (match decide (k = k') with | true => some (x == y) | false => none)
  | some .string, .str x, .str y => some (x == y)
  | some .bool, .bool x, .bool y => some (x == y)
  | _, _, _ => none
def efind (P : Program) (kt : TypeId) (k : AV) : List (AV × AV × Nat) → Nat → (Option (Nat × AV × Nat) → Bool) → Bool
  | [], _, K => K none
  | (k', v, n) :: es, i, K => match ekeyIs P kt k k' with
    | some true => K (some (i, v, n))
    | some false => fN (Nat.succ i) fun j => efind P kt k es j K
    | none => false
def emapEs (h : EH) : Option Nat → Option (List (AV × AV × Nat))
  | none => some []
  | some b => match h.t.get b with | some (.mp es _) => some es | _ => none
def eLookup (P : Program) (kt et : TypeId) (m : Option Nat) (k : AV) (ok : Bool) (h : EH) (K : AV → Bool) : Bool :=
  match emapEs h m, tz P et with
  | some es, some z => keyOk P kt k && efind P kt k es 0 fun r => match r, ok with
    | some (_, v, _), true => K (.tup [v, .bool true])
    | none, true => K (.tup [z, .bool false])
    | some (_, v, _), false => K v
    | none, false => K z
  | _, _ => false
def eset {α : Type} : List α → Nat → α → (List α → Bool) → Bool
  | [], _, _, k => k []
  | x :: c, i, y, k => match i with | 0 => k (y :: c) | i + 1 => eset c i y fun l => k (x :: l)
def eerase {α : Type} : List α → Nat → (List α → Bool) → Bool
  | [], _, k => k []
  | x :: c, i, k => match i with | 0 => k c | i + 1 => eerase c i fun l => k (x :: l)
def eUpdate (P : Program) (kt : TypeId) (b : Nat) (k v : AV) (h : EH) (K : EH → Bool) : Bool :=
  match h.t.get b with
  | some (.mp es cl) => (keyOk P kt k && !isTup v) && efind P kt k es 0 fun r => (match r with
    | some (i, _, n) => eset es i (k, v, n) fun es' => h.t.put b (.mp es' cl) fun t' => K ⟨t', h.n⟩
    | none => ap es [(k, v, cl)] fun es' => fN (Nat.succ cl) fun cl' => h.t.put b (.mp es' cl') fun t' => K ⟨t', h.n⟩)
  | _ => false
def eDelete (P : Program) (kt : TypeId) (m : Option Nat) (k : AV) (h : EH) (K : EH → Bool) : Bool :=
  match m with
  | none => keyOk P kt k && K h
  | some b => match h.t.get b with
    | some (.mp es cl) => keyOk P kt k && efind P kt k es 0 fun r => (match r with
      | some (i, _, _) => eerase es i fun es' => h.t.put b (.mp es' cl) fun t' => K ⟨t', h.n⟩
      | none => h.t.put b (.mp es cl) fun t' => K ⟨t', h.n⟩)
    | _ => false
def ballE : List (AV × AV × Nat) → (AV × AV × Nat → Bool) → Bool
  | [], _ => true
  | [e], K => K e
  | e :: es, K => K e && ballE es K
def eNext (b : Nat) (h : EH) (K : AV → EH → Bool) : Bool :=
  match h.t.get b with
  | some (.it none _ _ _) => K (.tup [.bool false]) h
  | some (.it (some m) since seen last) => (match h.t.get m with
    | some (.mp es cl) => (es.all fun e => decide (e.2.2 < since) && decide (e.2.2 < last)) && (match leftE es seen with
      | [] => K (.tup [.bool false]) h
      | l => ballE l fun e => ap seen [e.2.2] fun s' => h.t.put b (.it (some m) since s' cl) fun t' => K (.tup [.bool true, e.1, e.2.1]) ⟨t', h.n⟩)
    | _ => false)
  | _ => false
def eEntry (b : Nat) (h : EH) (K : AV → Bool) : Bool :=
  match h.t.get b with
  | some (.it (some m) _ seen stepped) => (match seen.getLast?, h.t.get m with
    | some stamp, some (.mp es cl) => (cl == stepped) && (match es.find? (fun e => e.2.2 == stamp) with
      | some (k, v, _) => K (.tup [k, v])
      | none => false)
    | _, _ => false)
  | _ => false
def eNewB (B : Blk) (h : EH) (k : Nat → EH → Bool) : Bool := h.t.add h.n B fun t' => fN (Nat.succ h.n) fun n' => k h.n ⟨t', n'⟩

def eBuiltin (P : Program) (b : Builtin) (argT : List TypeId) (args : List AV) (h : EH) (k : EK) : Bool :=
  match b, argT, args with
  | .len, [t], [.sl s] => (match P.underlying t with | some (.slice _) => k (.val (.int .i64 (.ofNat (slLen s)))) h | _ => false)
  | .len, [t], [.str s] => (match P.underlying t with | some .string => fN s.length fun n => k (.val (.int .i64 (.ofNat n))) h | _ => false)
  | .len, [t], [.map m] => (match P.underlying t, emapEs h m with | some (.map _ _), some es => fN es.length fun n => k (.val (.int .i64 (.ofNat n))) h | _, _ => false)
  | .delete, [t, _], [.map m, x] => (match P.underlying t with | some (.map kt _) => eDelete P kt m x h fun h' => k (.val (.tup [])) h' | _ => false)
  | .clear, [t], [.sl s] => (match telem P t with
    | none => false
    | some e => match zcells P e, s with
      | some _, none => k (.val (.tup [])) h
      | some zs, some s => (match s.len with
        | 0 => k (.val (.tup [])) h
        | n + 1 => oneAll zs && eStore h s.b s.o (List.replicate (n + 1) zs).flatten fun h' => k (.val (.tup [])) h')
      | _, _ => false)
  | .cap, [t], [.sl s] => (match P.underlying t, s with
      | some (.slice _), none => k (.val (.int .i64 0)) h
      | some (.slice _), some s => s.opn == 0 && k (.val (.int .i64 (.ofNat s.cap))) h
      | _, _ => false)
  | .append, [t, u], [.sl s, x] =>
    (match telem P t with
    | none => false
    | some e =>
      match zcells P e with
      | none => false
      | some zs =>
        decide (0 < tbytes P e) &&
        match isIntT P u, x with
        | true, .int _ n => (oneAll zs && decide (0 ≤ n) && decide (n ≤ maxI) && decide (n * tbytes P e ≤ 140737488355328)) && fN n.toNat fun n => fL (List.replicate n zs).flatten fun xs => eAppend (tsz P e) (tbytes P e) s n xs h fun s' h' => k (.val (.sl s')) h'
        | false, .sl src => (telem P u).isSome && eslCells h src (slLen src * tsz P e) fun xs => eAppend (tsz P e) (tbytes P e) s (slLen src) xs h fun s' h' => k (.val (.sl s')) h'
        | false, .str src => (isStrT P u && tsz P e == 1) && fN src.length fun n => fBytes src fun xs => eAppend 1 (tbytes P e) s n xs h fun s' h' => k (.val (.sl s')) h'
        | _, _ => false)
  | .copy, [t, u], [.sl s, .sl src] =>
    (match telem P t with
    | none => false
    | some e => (P.info? e).isSome && fN (min (slLen src) (slLen s)) fun n => eslCells h src (n * tsz P e) fun xs => eCopy (tsz P e) s n xs h fun h' => k (.val (.int .i64 (.ofNat n))) h')
  | .min, _, args => eminL args fun v => k (.val v) h
  | .max, _, args => emaxL args fun v => k (.val v) h
  | _, _, _ => false

/-- Is the value of the shape? -/
def shT : List AV → List AV → Bool
  | [], [] => true
  | .agg zs :: vs, .agg l :: r => sameShapes zs l && shT vs r
  | .agg _ :: _, _ => false
  | z :: vs, x :: r => sameShapes [z] [x] && shT vs r
  | _, _ => false
def shV : AV → AV → Bool
  | .agg zs, .agg l => sameShapes zs l
  | .agg _, _ => false
  | .tup vs, .tup l => shT vs l
  | .tup _, _ => false
  | z, x => sameShapes [z] [x]

def eCallV (call : ECall) (f : AV) (args : List AV) (h : EH) (k : AV → EH → Bool) : Bool :=
  match f with
  | .func (.func g) first cap => ap args cap fun a => ap first a fun a => call g a h k
  | _ => false
def eInvoke (P : Program) (call : ECall) (r : AV) (name : String) (args : List AV) (h : EH) (k : AV → EH → Bool) : Bool :=
  match r with
  | .iface t v => (match methodOf P t name with
    | some g => call g (v :: args) h k
    | none => match methodAt P t name, v with
      | some (g, e), .ptr (some p) => (match tz P e with
        | some z => okTy P e z && eLoad z h p.b p.o fun v => call g (v :: args) h k
        | none => false)
      | _, _ => false)
  | _ => false

def eCallF (P : Program) (call : ECall) (f : AV) (args : List AV) (h : EH) (k : AV → EH → Bool) : Bool :=
  match f with
  | .func (.method name) [r] _ => eInvoke P call r name args h k
  | f => eCallV call f args h k

def efillA (place : Nat → Option (Nat × Nat)) : List AV → List (Nat × AV) → (List AV → Bool) → Bool
  | cells, [], k => k cells
  | cells, (i, v) :: rest, k =>
    match place i with
    | none => false
    | some (off, size) => (v.cells.length == size) && spl cells off v.cells fun c => efillA place c rest k

def epartsA (ρ : T LV) (ps : Array (Nat × Operand)) (k : List (Nat × AV) → Bool) : Bool :=
  fVals ρ (ps.toList.map (·.2)) fun l => k ((ps.toList.map (·.1)).zip l)

def eop (P : Program) (call : ECall) (o : Oper) (ρ : T LV) (h : EH) (k : EK) : Bool :=
  match o.op with
  | .move x | .assign x => k (eev ρ x) h
  | .pick c a b => (match eev ρ c with | .val (.bool true) => k (eev ρ a) h | .val (.bool false) => k (eev ρ b) h | _ => false)
  | .alloc t => (match zcells P t, o.dst with | some zs, some _ => oneAll zs && eNew zs true h fun b h' => k (.val (.ptr (some ⟨b, 0⟩))) h' | _, _ => false)
  | .box t x => (match eev ρ x, o.dst with | .val v, some _ => !isTup v && oneAll v.cells && eNew v.cells true h fun b h' => k (.val (.ptr (some ⟨b, 0⟩))) h' | _, _ => false)
  | .load t x => (match tz P t, eev ρ x with
    | some z, .val (.ptr (some p)) => okTy P t z && eLoad z h p.b p.o fun v => k (.val v) h
    | _, _ => false)
  | .store t a x => (match eev ρ x, eev ρ a with
    | .val v, .val (.ptr (some p)) => ((P.info? t).isSome && v.cells.length == tsz P t && oneAll v.cells) && eStore h p.b p.o v.cells fun h' => k .top h'
    | _, _ => false)
  | .nilCheck x => (match eev ρ x with
    | .val (.ptr (some p)) => k (.val (.ptr (some p))) h
    | .val (.func (.func f) a c) => k (.val (.func (.func f) a c)) h
    | .val (.iface t v) => k (.val (.iface t v)) h
    | _ => false)
  | .binOp op t x y _ => (match eev ρ x, eev ρ y with
    | .val a, .val b => eBin P op t h a b fun v => k (.val v) h
    | _, _ => false)
  | .unOp op _ x => (match eev ρ x with | .val a => eUn op a fun v => k (.val v) h | _ => false)
  | .convert src dst x => (match P.underlying src, P.underlying dst, eev ρ x with
    | some _, some (.int q), .val (.int _ n) => eint q n fun v => k (.val v) h
    | some .string, some .string, .val (.str s) => k (.val (.str s)) h
    | some (.slice e), some .string, .val (.sl s) => isU8 P e && eslCells h s (slLen s) fun l => eBytes l fun bs => k (.val (.str bs)) h
    | some .string, some (.slice e), .val (.str s) => (isU8 P e && decide (s.length ≤ 4611686018427387904)) && fBytes s fun l => eNew l false h fun b h' => fN s.length fun n => k (.val (.sl (some ⟨b, 0, n, n, 1⟩))) h'
    | _, _, _ => false)
  | .fieldAddr s x f => (match fieldOff P s f, eev ρ x with
    | some (off, ft), .val (.ptr (some p)) => decide (0 < tsz P ft) && fN (p.o + off) fun o => k (.val (.ptr (some ⟨p.b, o⟩))) h
    | _, _ => false)
  | .field s x f => (match fieldOff P s f, eev ρ x with
    | some (off, ft), .val (.agg cs) => (match tz P ft with
      | some z => okTy P ft z && ePart z cs off fun v => k (.val v) h
      | none => false)
    | _, _ => false)
  | .indexAddr t x ix => (match eevI ρ ix, P.underlying t, eev ρ x with
    | some i, some (.slice e), .val (.sl (some s)) => ((P.info? e).isSome && decide (0 ≤ i) && decide (i < s.len)) && fN (s.o + i.toNat * tsz P e) fun o => k (.val (.ptr (some ⟨s.b, o⟩))) h
    | some i, some (.array n e), .val (.ptr (some p)) => ((P.info? e).isSome && (decide (0 ≤ i) && decide (i < n))) && fN (p.o + i.toNat * tsz P e) fun o => k (.val (.ptr (some ⟨p.b, o⟩))) h
    | _, _, _ => false)
  | .index t x ix => (match eevI ρ ix, P.underlying t, eev ρ x with
    | some i, some .string, .val (.str s) => decide (0 ≤ i) && at1 s i.toNat fun b => fN b.toNat fun n => k (.val (.int .u8 (.ofNat n))) h
    | _, _, _ => false)
  | .build t ps => (match tz P t, P.underlying t with
    | some (.agg zs), some (.struct fs) => epartsA ρ ps fun parts => (noTups parts && fs.toList.all fun f => (P.info? f.type).isSome) &&
      efillA (fun i => (fs[i]?).map fun f => (f.offset, tsz P f.type)) zs parts fun cells => k (.val (.agg cells)) h
    | some (.agg zs), some (.array _ e) => epartsA ρ ps fun parts => (noTups parts && (P.info? e).isSome) &&
      efillA (fun i => some (i * tsz P e, tsz P e)) zs parts fun cells => k (.val (.agg cells)) h
    | _, _ => false)
  | .buildSlice t n ps => (match telem P t with
    | none => false
    | some e => match zcells P e with
      | some zs => epartsA ρ ps fun parts => (decide (n * tsz P e ≤ 16777216) && noTups parts) && fL (List.replicate n zs).flatten fun zc =>
        efillA (fun i => some (i * tsz P e, tsz P e)) zc parts fun cells => oneAll cells && eNew cells true h fun b h' => k (.val (.sl (some ⟨b, 0, n, n, 0⟩))) h'
      | none => false)
  | .slice t x lo hi mx => (match P.underlying t, eev ρ x, eoptI ρ lo, eoptI ρ hi, eoptI ρ mx with
    | some (.slice e), .val (.sl s), some l, some hh, some m => ((P.info? e).isSome && (m.isNone || hh.isSome)) && eSlice (tsz P e) s (l.getD 0) hh m fun s' => k (.val (.sl s')) h
    | some .string, .val (.str s), some l, some hh, some none => estrSlice s (l.getD 0) hh fun s' => k (.val (.str s')) h
    | some (.array n e), .val (.ptr (some p)), some l, some hh, some m => ((P.info? e).isSome && (m.isNone || hh.isSome)) && eSlice (tsz P e) (some ⟨p.b, p.o, n, n, 0⟩) (l.getD 0) hh m fun s' => k (.val (.sl s')) h
    | _, _, _, _, _ => false)
  | .makeSlice t l c => (match telem P t with
    | none => false
    | some e => match zcells P e, eevI ρ l, eevI ρ c with
      | some zs, some n, some m => oneAll zs && eMake zs (tbytes P e) n m h fun s' h' => k (.val (.sl s')) h'
      | _, _, _ => false)
  | .sliceToArrayPointer t x => (match P.underlying t, eev ρ x with
    | some (.array n _), .val (.sl (some s)) => (decide (0 < n) && decide (n ≤ s.len)) && k (.val (.ptr (some ⟨s.b, s.o⟩))) h
    | _, _ => false)
  | .makeMap _ r => (match r with | none => eNewB (.mp [] 0) h fun b h' => k (.val (.map (some b))) h' | some _ => false)
  | .lookup t x ix ok => (match P.underlying t, eev ρ x, eev ρ ix with
    | some (.map kt et), .val (.map m), .val kk => eLookup P kt et m kk ok h fun v => k (.val v) h
    | _, _, _ => false)
  | .mapUpdate t m kk x => (match P.underlying t, eev ρ m, eev ρ kk, eev ρ x with
    | some (.map kt _), .val (.map (some b)), .val kk, .val v => eUpdate P kt b kk v h fun h' => k .top h'
    | _, _, _, _ => false)
  | .range t x => (match P.underlying t, eev ρ x with
    | some (.map _ _), .val (.map none) => eNewB (.it none 0 [] 0) h fun b h' => k (.val (.ptr (some ⟨b, 0⟩))) h'
    | some (.map _ _), .val (.map (some b)) => (match h.t.get b with
      | some (.mp _ cl) => eNewB (.it (some b) cl [] cl) h fun b h' => k (.val (.ptr (some ⟨b, 0⟩))) h'
      | _ => false)
    | _, _ => false)
  | .next x isS => (match isS, eev ρ x with
    | false, .val (.ptr (some p)) => decide (p.o = 0) && eNext p.b h fun v h' => k (.val v) h'
    | _, _ => false)
  | .entry x => (match eev ρ x with
    | .val (.ptr (some p)) => decide (p.o = 0) && eEntry p.b h fun v => k (.val v) h
    | _ => false)
  | .extract x i => (match eev ρ x with | .val (.tup vs) => at1 vs i fun v => k (.val v) h | _ => false)
  | .makeFunc fn f c => fVals ρ f.toList fun a => fVals ρ c.toList fun b => k (.val (.func fn a b)) h
  | .makeInterface t x => (match P.underlying t, eev ρ x with | some (.interface _), _ => false | some _, .val v => k (.val (.iface t v)) h | _, _ => false)
  | .call c => fVals ρ c.args.toList fun args => (match c.callee with
      | .value f => (match eev ρ f, tz P o.type with
        | .val g, some z => eCallF P call g args h fun v h' => shV z v && k (.val v) h'
        | _, _ => false)
      | .invoke r name => (match eev ρ r, tz P o.type with
        | .val g, some z => eInvoke P call g name args h fun v h' => shV z v && k (.val v) h'
        | _, _ => false)
      | .builtin b => eBuiltin P b c.argTypes.toList args h k)
  | _ => false
end Go.Ab
