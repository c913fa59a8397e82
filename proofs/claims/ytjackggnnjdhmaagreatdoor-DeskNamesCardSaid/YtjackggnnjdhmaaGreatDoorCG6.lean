import Derived.Test.YtjackggnnjdhmaaGreatDoorCG5
namespace Go.Ab
set_option linter.unusedVariables false
structure EH where
 t : T Blk
 n : Nat
abbrev EK := LV → EH → Bool
abbrev ECall := FuncId → List AV → EH → (AV → EH → Bool) → Bool
def eev (ρ : T LV) : Operand → LV
 | .tmp t => match ρ.get t with | some v => v | none => .top
 | .const v => match ofV 4 v with | some x => .val x | none => .top
 | .global _ => .top
 | .func f => .val (.func (.func f) [] [])
def evals (ρ : T LV) : List Operand → Option (List AV)
 | [] => some []
 | o :: os => match eev ρ o with
  | .val x => (match evals ρ os with | some l => some (x :: l) | none => none)
  | _ => none
def eevI (ρ : T LV) (x : Operand) : Option Int := match eev ρ x with | .val (.int _ n) => some n | _ => none
def eoptI (ρ : T LV) : Option Operand → Option (Option Int)
 | none => some none
 | some x => (eevI ρ x).map some
def fVals (ρ : T LV) : List Operand → (List AV → Bool) → Bool
 | [], k => k []
 | o :: os, k => match eev ρ o with
  | .val x => fVals ρ os fun l => k (x :: l)
  | _ => false
def eNew (c : List AV) (rw : Bool) (h : EH) (k : Nat → EH → Bool) : Bool := h.t.add h.n (.cells c rw) fun t' => fN (Nat.succ h.n) fun n' => k h.n ⟨t', n'⟩
def eNewT (t : TypeId) (c : List AV) (h : EH) (k : Nat → EH → Bool) : Bool := h.t.add h.n (.bx (.iface t (.tup c))) fun t' => fN (Nat.succ h.n) fun n' => k h.n ⟨t', n'⟩
def eAlloc (b : Bool) (t : TypeId) (zs : List AV) (h : EH) (k : EK) : Bool := match b with
 | true => eNewT t zs h fun b h' => k (.val (.ptr (some ⟨b, 0⟩))) h'
 | false => eNew zs true h fun b h' => k (.val (.ptr (some ⟨b, 0⟩))) h'
def eCells (h : EH) (b o n : Nat) (k : List AV → Bool) : Bool := match h.t.get b with | some (.cells c _) => tk c o n k | _ => false
def eMark (h : EH) (g : Nat) : Nat → Nat → Option Nat
 | 0, _ => none
 | n + 1, a => match h.t.get a with
  | some (.gm g' j) => (match Nat.beq g g' with | true => some j | false => eMark h g n (Nat.succ (Nat.succ a)))
  | _ => none
def ePart (z : AV) (c : List AV) (o : Nat) (k : AV → Bool) : Bool :=
 match z with
 | .agg zs => tk c o zs.length fun l => k (.agg l)
 | .tup _ => false
 | _ => at1 c o k
def eLoad (z : AV) (h : EH) (b o : Nat) (k : AV → Bool) : Bool :=
 match h.t.get b with
 | some (.cells c _) => (match z with
  | .agg zs => tk c o zs.length fun l => sameShapes zs l && k (.agg l)
  | .tup _ => false
  | z => at1 c o fun v => sameShape z v && k v)
 | _ => false
def eStore (h : EH) (b o : Nat) (xs : List AV) (k : EH → Bool) : Bool :=
 match h.t.get b with
 | some (.cells c true) => spl c o xs fun c' => h.t.put b (.cells c' true) fun t' => k ⟨t', h.n⟩
 | _ => false
def eint (k : IntKind) (n : Int) (K : AV → Bool) : Bool := fI (wrapK k n) fun m => K (.int k m)
def ebool (b : Bool) (K : AV → Bool) : Bool := match b with | true => K (.bool true) | false => K (.bool false)
def eInt (op : BinOp) (k : IntKind) (a b : Int) (K : AV → Bool) : Bool :=
 match op with
 | .add => eint k (a + b) K
 | .sub => eint k (a - b) K
 | .mul => eint k (a * b) K
 | .quo => !(b == 0) && eint k (a.tdiv b) K
 | .rem => !(b == 0) && fI (a.tmod b) fun m => K (.int k m)
 | .and => fI (bitsAnd k a b) fun m => K (.int k m)
 | .or => fI (bitsOr k a b) fun m => K (.int k m)
 | .xor => fI (bitsXor k a b) fun m => K (.int k m)
 | .andNot => fI (bitsAndNot k a b) fun m => K (.int k m)
 | .eql => ebool (a == b) K
 | .neq => ebool (a != b) K
 | .lss => ebool (decide (a < b)) K
 | .leq => ebool (decide (a ≤ b)) K
 | .gtr => ebool (decide (a > b)) K
 | .geq => ebool (decide (a ≥ b)) K
 | _ => false
def eIntS (op : BinOp) (k : IntKind) (a : Int) (k' : IntKind) (b : Int) (K : AV → Bool) : Bool :=
 match op with
 | .shl => decide (0 ≤ b) && fI (shlK k a b) fun m => K (.int k m)
 | .shr => decide (0 ≤ b) && fI (shrK k a b) fun m => K (.int k m)
 | op => decide (k = k') && eInt op k a b K
def eStr (op : BinOp) (a b : List UInt8) (K : AV → Bool) : Bool :=
 match op with
 | .add => decide (a.length + b.length ≤ 9223372036854775807) && ap a b fun s => K (.str s)
 | .eql => ebool (a == b) K
 | .neq => ebool (!(a == b)) K
 | .lss => ebool (bytesLess a b) K
 | .leq => ebool (bytesLess a b || a == b) K
 | .gtr => ebool (!(bytesLess a b || a == b)) K
 | .geq => ebool (!bytesLess a b) K
 | _ => false
def eeqFs (P : Program) (eqT : TypeId → List AV → List AV → (Bool → List AV → List AV → Bool) → Bool) : List Field → Nat → List AV → List AV → (Bool → List AV → List AV → Bool) → Bool
 | [], _, xs, ys, K => K true xs ys
 | f :: fs, off, xs, ys, K =>
  (f.offset == off && f.name != "_" && decide (0 < tsz P f.type) && decide (tsz P f.type ≤ xs.length) && decide (tsz P f.type ≤ ys.length) && (P.info? f.type).isSome && (P.underlying f.type).isSome) &&
   eqT f.type xs ys fun b xs' ys' => eeqFs P eqT fs (off + tsz P f.type) xs' ys' fun r xs'' ys'' => K (b && r) xs'' ys''
def eeqT (P : Program) : Nat → TypeId → List AV → List AV → (Bool → List AV → List AV → Bool) → Bool
 | 0, _, _, _, _ => false
 | n + 1, t, xs, ys, K =>
  match P.underlying t, xs, ys with
  | some (.int _), .int k a :: xs, .int k' b :: ys => (decide (k = k') && tsz P t == 1) && K (a == b) xs ys
  | some .bool, .bool a :: xs, .bool b :: ys => (tsz P t == 1) && K (a == b) xs ys
  | some .string, .str a :: xs, .str b :: ys => (tsz P t == 1) && K (a == b) xs ys
  | some (.struct fs), xs, ys =>
   (!P.stoodInHeld t) && eeqFs P (eeqT P n) fs.toList 0 (xs.take (tsz P t)) (ys.take (tsz P t)) fun b xs' ys' => (xs'.isEmpty && ys'.isEmpty) && K b (xs.drop (tsz P t)) (ys.drop (tsz P t))
  | _, _, _ => false
def eptrEq (h : EH) (p q : PA) (K : Bool → Bool) : Bool :=
 match Nat.beq p.b q.b with
 | true => K (p.o == q.o)
 | false => match h.t.get p.b, h.t.get q.b with
  | some (.cells _ true), some (.cells _ true) => K false
  | _, _ => false
def eEq (P : Program) (t : TypeId) (h : EH) (x y : AV) (K : Bool → Bool) : Bool :=
 match P.underlying t, x, y with
 | some .bool, .bool a, .bool b => K (a == b)
 | some (.struct _), .agg xs, .agg ys => (!P.eqGuardType P.depth t && xs.length == tsz P t && ys.length == tsz P t) && eeqT P 50 t xs ys fun b _ _ => K b
 | some (.pointer _), .ptr p, .ptr none => K p.isNone
 | some (.pointer _), .ptr none, .ptr (some _) => K false
 | some (.pointer e), .ptr (some p), .ptr (some q) => decide (0 < tsz P e) && eptrEq h p q K
 | some (.slice _), .sl s, .sl none => K s.isNone
 | some (.map _ _), .map s, .map none => K s.isNone
 | some (.func _ _ _), .nilfunc, .nilfunc => K true
 | some (.func _ _ _), .func _ _ _, .nilfunc => K false
 | _, _, _ => false
def eCmp (P : Program) (op : BinOp) (t : TypeId) (h : EH) (x y : AV) (K : AV → Bool) : Bool :=
 match op with
 | .eql => eEq P t h x y fun b => ebool b K
 | .neq => eEq P t h x y fun b => ebool (!b) K
 | _ => false
def eBin (P : Program) (op : BinOp) (t : TypeId) (h : EH) (x y : AV) (K : AV → Bool) : Bool :=
 match x, y with
 | .int k a, .int k' b => eIntS op k a k' b K
 | .str a, .str b => eStr op a b K
 | x, y => eCmp P op t h x y K
def eUn (op : UnOp) (x : AV) (K : AV → Bool) : Bool :=
 match op, x with
 | .neg, .int k n => eint k (0 - n) K
 | .xor, .int k n => fI (bitsXor k (if k.signed then -1 else k.max) n) fun m => K (.int k m)
 | .not, .bool b => ebool (!b) K
 | _, _ => false
def eslCells (h : EH) (s : Option SL) (n : Nat) (k : List AV → Bool) : Bool :=
 match s with
 | some s => eCells h s.b s.o n k
 | none => match n with | 0 => k [] | _ + 1 => false
def eRow (b o len cap opn : Nat) (k : Option SL → Bool) : Bool := fN b fun b => fN o fun o => fN len fun len => fN cap fun cap => fN opn fun opn => k (some ⟨b, o, len, cap, opn⟩)
def eAppend (sz bytes : Nat) (s : Option SL) (n : Nat) (xs : List AV) (h : EH) (k : Option SL → EH → Bool) : Bool :=
 (xs.length == n * sz) &&
 match s with
 | none => (match n with
  | 0 => k none h
  | n + 1 => (decide ((n + 1) * bytes ≤ 140737488355328) && decide (0 < sz)) && eNew xs true h fun b h' => eRow b 0 (n + 1) (n + 1) sz fun s' => k s' h')
 | some s =>
  match Nat.ble (s.len + n) s.cap with
  | true => (match h.t.get s.b with
   | some (.cells c true) => spl c (s.o + s.len * sz) xs fun c' => h.t.put s.b (.cells c' true) fun t' => eRow s.b s.o (s.len + n) s.cap s.opn fun s' => k s' ⟨t', h.n⟩
   | some (.cells _ false) => (match n with | 0 => k (some s) h | _ + 1 => false)
   | some (.mp _ _) => (match n with | 0 => k (some s) h | _ + 1 => false)
   | some (.it _ _ _ _) => (match n with | 0 => k (some s) h | _ + 1 => false)
   | some (.bx _) => (match n with | 0 => k (some s) h | _ + 1 => false)
   | some (.gm _ _) => (match n with | 0 => k (some s) h | _ + 1 => false)
   | some .dead => (match n with | 0 => k (some s) h | _ + 1 => false)
   | none => (match n with | 0 => k (some s) h | _ + 1 => false))
  | false => (decide ((s.len + n) * bytes ≤ 140737488355328) && decide (0 < sz)) &&
   match h.t.get s.b with
   | some (.cells c rw) => tk c s.o (s.len * sz) fun old =>
    (match s.opn with
    | 0 => ap old xs fun c' => eNew c' true h fun b h' => eRow b 0 (s.len + n) (s.len + n) sz fun s' => k s' h'
    | _ + 1 => (rw && s.opn == sz) && h.t.put s.b .dead fun t' => ap old xs fun c' => eNew c' true ⟨t', h.n⟩ fun b h' => eRow b 0 (s.len + n) (s.len + n) sz fun s' => k s' h')
   | _ => false
def eCopy (sz : Nat) (s : Option SL) (n : Nat) (xs : List AV) (h : EH) (k : EH → Bool) : Bool :=
 (xs.length == n * sz) &&
 match s with
 | none => (match n with | 0 => k h | _ + 1 => false)
 | some s => Nat.ble n s.len && eStore h s.b s.o xs k
def eSlice (sz : Nat) (s : Option SL) (lo : Int) (hi mx : Option Int) (k : Option SL → Bool) : Bool :=
 match s with
 | none => (lo == 0 && hi.getD 0 == 0 && mx.getD 0 == 0) && k none
 | some s =>
  ((s.opn == 0 || s.opn == sz) && decide (0 ≤ lo) && decide (lo ≤ hi.getD s.len) && decide (hi.getD s.len ≤ mx.getD s.cap) && decide (mx.getD s.cap ≤ s.cap)) &&
   eRow s.b (s.o + lo.toNat * sz) (hi.getD s.len - lo).toNat (mx.getD s.cap - lo).toNat (if mx.isNone then s.opn else 0) k
def estrSlice (s : List UInt8) (lo : Int) (hi : Option Int) (k : List UInt8 → Bool) : Bool :=
 (decide (0 ≤ lo) && decide (lo ≤ hi.getD s.length) && decide (hi.getD s.length ≤ s.length)) && tk s lo.toNat ((hi.getD s.length).toNat - lo.toNat) k
def eBytes : List AV → (List UInt8 → Bool) → Bool
 | [], k => k []
 | .int .u8 n :: l, k => match n with
  | .ofNat m => Nat.blt m 256 && eBytes l fun r => k (UInt8.ofNat m :: r)
  | .negSucc _ => false
 | _ :: _, _ => false
def fBytes : List UInt8 → (List AV → Bool) → Bool
 | [], k => k []
 | b :: l, k => fN b.toNat fun n => fBytes l fun r => k (.int .u8 (.ofNat n) :: r)
def eMake (zs : List AV) (bytes : Nat) (l c : Int) (h : EH) (k : Option SL → EH → Bool) : Bool :=
 (decide (0 ≤ l) && decide (l ≤ c) && decide (c * bytes ≤ 281474976710656) && decide (c ≤ maxI)) &&
  fL (List.replicate c.toNat zs).flatten fun cs => eNew cs true h fun b h' => eRow b 0 l.toNat c.toNat 0 fun s => k s h'
def eminL : List AV → (AV → Bool) → Bool
 | [.int k a], K => K (.int k a)
 | [.int k a, .int k' b], K => decide (k = k') && fI (minI a b) fun m => K (.int k m)
 | [.int k a, .int k' b, .int k2 c], K => (decide (k = k') && decide (k = k2)) && fI (minI (minI a b) c) fun m => K (.int k m)
 | _, _ => false
def emaxL : List AV → (AV → Bool) → Bool
 | [.int k a], K => K (.int k a)
 | [.int k a, .int k' b], K => decide (k = k') && fI (maxI2 a b) fun m => K (.int k m)
 | _, _ => false
def ekeyIs (P : Program) (kt : TypeId) (a b : AV) : Option Bool :=
 match P.underlying kt, a, b with
 | some (.int _), .int k x, .int k' y => (match decide (k = k') with | true => some (x == y) | false => none)
 | some .string, .str x, .str y => some (x == y)
 | some .bool, .bool x, .bool y => some (x == y)
 | some (.struct fs), .agg xs, .agg ys => keyS P kt fs xs ys
 | some (.array n e), .agg xs, .agg ys => keyA P n e xs ys
 | _, _, _ => none
def efind (P : Program) (kt : TypeId) (k : AV) : List (AV × AV × Nat) → Nat → (Option (Nat × AV × Nat) → Bool) → Bool
 | [], _, K => K none
 | (k', v, n) :: es, i, K => match ekeyIs P kt k k' with
  | some true => K (some (i, v, n))
  | some false => fN (Nat.succ i) fun j => efind P kt k es j K
  | none => false
def emapEs (h : EH) : Option Nat → Option (List (AV × AV × Nat))
 | none => some []
 | some b => match h.t.get b with | some (.mp es _) => some es | _ => none
def eLookup (P : Program) (kt et : TypeId) (m : Option Nat) (k : AV) (ok : Bool) (h : EH) (K : AV → Bool) : Bool :=
 match emapEs h m, tz P et with
 | some es, some z => keyOk P kt k && efind P kt k es 0 fun r => match r, ok with
  | some (_, v, _), true => K (.tup [v, .bool true])
  | none, true => K (.tup [z, .bool false])
  | some (_, v, _), false => K v
  | none, false => K z
 | _, _ => false
def eset {α : Type} : List α → Nat → α → (List α → Bool) → Bool
 | [], _, _, k => k []
 | x :: c, i, y, k => match i with | 0 => k (y :: c) | i + 1 => eset c i y fun l => k (x :: l)
def eerase {α : Type} : List α → Nat → (List α → Bool) → Bool
 | [], _, k => k []
 | x :: c, i, k => match i with | 0 => k c | i + 1 => eerase c i fun l => k (x :: l)
def eUpdate (P : Program) (kt : TypeId) (b : Nat) (k v : AV) (h : EH) (K : EH → Bool) : Bool :=
 match h.t.get b with
 | some (.mp es cl) => (keyOk P kt k && !isTup v) && efind P kt k es 0 fun r => (match r with
  | some (i, _, n) => eset es i (k, v, n) fun es' => h.t.put b (.mp es' cl) fun t' => K ⟨t', h.n⟩
  | none => ap es [(k, v, cl)] fun es' => fN (Nat.succ cl) fun cl' => h.t.put b (.mp es' cl') fun t' => K ⟨t', h.n⟩)
 | _ => false
def eEntryAt (P : Program) (kt et : TypeId) (b : Nat) (k : AV) (h : EH) (K : AV → Nat → EH → Bool) : Bool :=
 match h.t.get b, tz P et with
 | some (.mp es cl), some z => keyOk P kt k && efind P kt k es 0 fun r => (match r with
  | some (i, v, n) => eset es i (k, v, n) fun es' => h.t.put b (.mp es' cl) fun t' => K v n ⟨t', h.n⟩
  | none => ap es [(k, z, cl)] fun es' => fN (Nat.succ cl) fun cl' => h.t.put b (.mp es' cl') fun t' => K z cl ⟨t', h.n⟩)
 | _, _ => false
def emod : List (AV × AV × Nat) → Int → AV → (List (AV × AV × Nat) → Bool) → Bool
 | [], _, _, _ => false
 | e :: es, n, v, K => match (e.2.2 : Int) == n with
  | true => K ((e.1, v, e.2.2) :: es)
  | false => emod es n v fun r => K (e :: r)
def eEntrySet (b : Nat) (n : Int) (v : AV) (h : EH) (K : EH → Bool) : Bool :=
 match h.t.get b with
 | some (.mp es cl) => !isTup v && emod es n v fun es' => h.t.put b (.mp es' cl) fun t' => K ⟨t', h.n⟩
 | _ => false
def eDelete (P : Program) (kt : TypeId) (m : Option Nat) (k : AV) (h : EH) (K : EH → Bool) : Bool :=
 match m with
 | none => keyOk P kt k && K h
 | some b => match h.t.get b with
  | some (.mp es cl) => keyOk P kt k && efind P kt k es 0 fun r => (match r with
   | some (i, _, _) => eerase es i fun es' => h.t.put b (.mp es' cl) fun t' => K ⟨t', h.n⟩
   | none => h.t.put b (.mp es cl) fun t' => K ⟨t', h.n⟩)
  | _ => false
def ballE : List (AV × AV × Nat) → (AV × AV × Nat → Bool) → Bool
 | [], _ => true
 | [e], K => K e
 | e :: es, K => K e && ballE es K
def eNext (b : Nat) (h : EH) (K : AV → EH → Bool) : Bool :=
 match h.t.get b with
 | some (.it none _ _ _) => K (.tup [.bool false]) h
 | some (.it (some m) since seen last) => (match h.t.get m with
  | some (.mp es cl) => (es.all fun e => decide (e.2.2 < since) && decide (e.2.2 < last)) && (match leftE es seen with
   | [] => K (.tup [.bool false]) h
   | l => ballE l fun e => ap seen [e.2.2] fun s' => h.t.put b (.it (some m) since s' cl) fun t' => K (.tup [.bool true, e.1, e.2.1]) ⟨t', h.n⟩)
  | _ => false)
 | _ => false
def eEntry (b : Nat) (h : EH) (K : AV → Bool) : Bool :=
 match h.t.get b with
 | some (.it (some m) _ seen stepped) => (match seen.getLast?, h.t.get m with
  | some stamp, some (.mp es cl) => (cl == stepped) && (match es.find? (fun e => e.2.2 == stamp) with
   | some (k, v, _) => K (.tup [k, v])
   | none => false)
  | _, _ => false)
 | _ => false
def eNewB (B : Blk) (h : EH) (k : Nat → EH → Bool) : Bool := h.t.add h.n B fun t' => fN (Nat.succ h.n) fun n' => k h.n ⟨t', n'⟩
def eBuiltin (P : Program) (b : Builtin) (argT : List TypeId) (args : List AV) (h : EH) (k : EK) : Bool :=
 match b, argT, args with
 | .len, [t], [.sl s] => (match P.underlying t with | some (.slice _) => k (.val (.int .i64 (.ofNat (slLen s)))) h | _ => false)
 | .len, [t], [.str s] => (match P.underlying t with | some .string => fN s.length fun n => k (.val (.int .i64 (.ofNat n))) h | _ => false)
 | .len, [t], [.map m] => (match P.underlying t, emapEs h m with | some (.map _ _), some es => fN es.length fun n => k (.val (.int .i64 (.ofNat n))) h | _, _ => false)
 | .delete, [t, _], [.map m, x] => (match P.underlying t with | some (.map kt _) => eDelete P kt m x h fun h' => k (.val (.tup [])) h' | _ => false)
 | .clear, [t], [.sl s] => (match telem P t with
  | none => false
  | some e => match zcells P e, s with
   | some _, none => k (.val (.tup [])) h
   | some zs, some s => (match s.len with
    | 0 => k (.val (.tup [])) h
    | n + 1 => oneAll zs && eStore h s.b s.o (List.replicate (n + 1) zs).flatten fun h' => k (.val (.tup [])) h')
   | _, _ => false)
 | .cap, [t], [.sl s] => (match P.underlying t, s with
   | some (.slice _), none => k (.val (.int .i64 0)) h
   | some (.slice _), some s => s.opn == 0 && k (.val (.int .i64 (.ofNat s.cap))) h
   | _, _ => false)
 | .append, [t, u], [.sl s, x] =>
  (match telem P t with
  | none => false
  | some e =>
   match zcells P e with
   | none => false
   | some zs =>
    decide (0 < tbytes P e) &&
    match isIntT P u, x with
    | true, .int _ n => (oneAll zs && decide (0 ≤ n) && decide (n ≤ maxI) && decide (n * tbytes P e ≤ 140737488355328)) && fN n.toNat fun n => fL (List.replicate n zs).flatten fun xs => eAppend (tsz P e) (tbytes P e) s n xs h fun s' h' => k (.val (.sl s')) h'
    | false, .sl src => (telem P u).isSome && eslCells h src (slLen src * tsz P e) fun xs => eAppend (tsz P e) (tbytes P e) s (slLen src) xs h fun s' h' => k (.val (.sl s')) h'
    | false, .str src => (isStrT P u && tsz P e == 1) && fN src.length fun n => fBytes src fun xs => eAppend 1 (tbytes P e) s n xs h fun s' h' => k (.val (.sl s')) h'
    | _, _ => false)
 | .copy, [t, u], [.sl s, .sl src] =>
  (match telem P t with
  | none => false
  | some e => (P.info? e).isSome && fN (min (slLen src) (slLen s)) fun n => eslCells h src (n * tsz P e) fun xs => eCopy (tsz P e) s n xs h fun h' => k (.val (.int .i64 (.ofNat n))) h')
 | .min, _, args => eminL args fun v => k (.val v) h
 | .max, _, args => emaxL args fun v => k (.val v) h
 | _, _, _ => false
def shT : List AV → List AV → Bool
 | [], [] => true
 | .agg zs :: vs, .agg l :: r => sameShapes zs l && shT vs r
 | .agg _ :: _, _ => false
 | z :: vs, x :: r => sameShapes [z] [x] && shT vs r
 | _, _ => false
def shV : AV → AV → Bool
 | .agg zs, .agg l => sameShapes zs l
 | .agg _, _ => false
 | .tup vs, .tup l => shT vs l
 | .tup _, _ => false
 | z, x => sameShapes [z] [x]
def eCallV (call : ECall) (f : AV) (args : List AV) (h : EH) (k : AV → EH → Bool) : Bool :=
 match f with
 | .func (.func g) first cap => !Nat.beq g 1000000000 && ap args cap fun a => ap first a fun a => call g a h k
 | .func (.yield l) first cap => call 1000000000 (.func (.yield l) first cap :: args) h k
 | _ => false
def eInvoke (P : Program) (call : ECall) (r : AV) (name : String) (args : List AV) (h : EH) (k : AV → EH → Bool) : Bool :=
 match r with
 | .iface t v => (match methodOf P t name with
  | some g => !Nat.beq g 1000000000 && call g (v :: args) h k
  | none => match methodAt P t name, v with
   | some (g, e), .ptr (some p) => (match tz P e with
    | some z => (!Nat.beq g 1000000000 && okTy P e z) && eLoad z h p.b p.o fun v => call g (v :: args) h k
    | none => false)
   | _, _ => false)
 | _ => false
def eCallF (P : Program) (call : ECall) (f : AV) (args : List AV) (h : EH) (k : AV → EH → Bool) : Bool :=
 match f with
 | .func (.method name) [r] _ => eInvoke P call r name args h k
 | f => eCallV call f args h k
def efillA (place : Nat → Option (Nat × Nat)) : List AV → List (Nat × AV) → (List AV → Bool) → Bool
 | cells, [], k => k cells
 | cells, (i, v) :: rest, k =>
  match place i with
  | none => false
  | some (off, size) => (v.cells.length == size) && spl cells off v.cells fun c => efillA place c rest k
def epartsA (ρ : T LV) (ps : Array (Nat × Operand)) (k : List (Nat × AV) → Bool) : Bool :=
 fVals ρ (ps.toList.map (·.2)) fun l => k ((ps.toList.map (·.1)).zip l)
def eop (P : Program) (call : ECall) (o : Oper) (ρ : T LV) (h : EH) (k : EK) : Bool :=
 match o.op with
 | .move x | .assign x => k (eev ρ x) h
 | .pick c a b => (match eev ρ c with | .val (.bool true) => k (eev ρ a) h | .val (.bool false) => k (eev ρ b) h | _ => false)
 | .alloc t => (match zcells P t, o.dst with | some zs, some _ => oneAll zs && eAlloc (bldT P t) t zs h k | _, _ => false)
 | .box t x => (match eev ρ x, o.dst with | .val v, some _ => !isTup v && oneAll v.cells && eNew v.cells true h fun b h' => k (.val (.ptr (some ⟨b, 0⟩))) h' | _, _ => false)
 | .load t x => (match tz P t, eev ρ x with
  | some z, .val (.ptr (some p)) => okTy P t z && eLoad z h p.b p.o fun v => k (.val v) h
  | _, _ => false)
 | .store t a x => (match eev ρ x, eev ρ a with
  | .val v, .val (.ptr (some p)) => ((P.info? t).isSome && v.cells.length == tsz P t && oneAll v.cells) && eStore h p.b p.o v.cells fun h' => k .top h'
  | _, _ => false)
 | .nilCheck x => (match eev ρ x with
  | .val (.ptr (some p)) => k (.val (.ptr (some p))) h
  | .val (.func (.func f) a c) => k (.val (.func (.func f) a c)) h
  | .val (.iface t v) => k (.val (.iface t v)) h
  | _ => false)
 | .binOp op t x y _ => (match eev ρ x, eev ρ y with
  | .val a, .val b => eBin P op t h a b fun v => k (.val v) h
  | _, _ => false)
 | .unOp op _ x => (match eev ρ x with | .val a => eUn op a fun v => k (.val v) h | _ => false)
 | .convert src dst x => (match P.underlying src, P.underlying dst, eev ρ x with
  | some _, some (.int q), .val (.int _ n) => eint q n fun v => k (.val v) h
  | some .string, some .string, .val (.str s) => k (.val (.str s)) h
  | some (.int _), some .string, .val (.int _ n) => (decide (0 ≤ n) && decide (n < 128)) && fN n.toNat fun m => k (.val (.str [UInt8.ofNat m])) h
  | some (.slice e), some .string, .val (.sl s) => isU8 P e && eslCells h s (slLen s) fun l => eBytes l fun bs => k (.val (.str bs)) h
  | some .string, some (.slice e), .val (.str s) => (isU8 P e && decide (s.length ≤ 4611686018427387904)) && fBytes s fun l => eNew l false h fun b h' => fN s.length fun n => k (.val (.sl (some ⟨b, 0, n, n, 1⟩))) h'
  | _, _, _ => false)
 | .fieldAddr s x f => (match fieldOff P s f, eev ρ x with
  | some (off, ft), .val (.ptr (some p)) => decide (0 < tsz P ft) && fN (p.o + off) fun o => k (.val (.ptr (some ⟨p.b, o⟩))) h
  | _, _ => false)
 | .field s x f => (match fieldOff P s f, eev ρ x with
  | some (off, ft), .val (.agg cs) => (match tz P ft with
   | some z => okTy P ft z && ePart z cs off fun v => k (.val v) h
   | none => false)
  | _, _ => false)
 | .indexAddr t x ix => (match eevI ρ ix, P.underlying t, eev ρ x, x with
  | some i, some (.slice e), .val (.sl (some s)), _ => ((P.info? e).isSome && decide (0 ≤ i) && decide (i < s.len)) && fN (s.o + i.toNat * tsz P e) fun o => k (.val (.ptr (some ⟨s.b, o⟩))) h
  | some i, some (.array n e), .val (.ptr (some p)), _ => ((P.info? e).isSome && (decide (0 ≤ i) && decide (i < n))) && fN (p.o + i.toNat * tsz P e) fun o => k (.val (.ptr (some ⟨p.b, o⟩))) h
  | some i, some (.array n e), .top, .global g => (match eMark h g 8 0 with
   | some j => ((P.info? e).isSome && (decide (0 ≤ i) && decide (i < n))) && fN (i.toNat * tsz P e) fun o => k (.val (.ptr (some ⟨j, o⟩))) h
   | none => false)
  | _, _, _, _ => false)
 | .index t x ix => (match eevI ρ ix, P.underlying t, eev ρ x with
  | some i, some .string, .val (.str s) => decide (0 ≤ i) && at1 s i.toNat fun b => fN b.toNat fun n => k (.val (.int .u8 (.ofNat n))) h
  | _, _, _ => false)
 | .build t ps => (match tz P t, P.underlying t with
  | some (.agg zs), some (.struct fs) => epartsA ρ ps fun parts => (noTups parts && fs.toList.all fun f => (P.info? f.type).isSome) &&
   efillA (fun i => (fs[i]?).map fun f => (f.offset, tsz P f.type)) zs parts fun cells => k (.val (.agg cells)) h
  | some (.agg zs), some (.array _ e) => epartsA ρ ps fun parts => (noTups parts && (P.info? e).isSome) &&
   efillA (fun i => some (i * tsz P e, tsz P e)) zs parts fun cells => k (.val (.agg cells)) h
  | _, _ => false)
 | .buildSlice t n ps => (match telem P t with
  | none => false
  | some e => match zcells P e with
   | some zs => epartsA ρ ps fun parts => (decide (n * tsz P e ≤ 16777216) && noTups parts) && fL (List.replicate n zs).flatten fun zc =>
    efillA (fun i => some (i * tsz P e, tsz P e)) zc parts fun cells => oneAll cells && eNew cells true h fun b h' => k (.val (.sl (some ⟨b, 0, n, n, 0⟩))) h'
   | none => false)
 | .slice t x lo hi mx => (match P.underlying t, eev ρ x, eoptI ρ lo, eoptI ρ hi, eoptI ρ mx with
  | some (.slice e), .val (.sl s), some l, some hh, some m => ((P.info? e).isSome && (m.isNone || hh.isSome)) && eSlice (tsz P e) s (l.getD 0) hh m fun s' => k (.val (.sl s')) h
  | some .string, .val (.str s), some l, some hh, some none => estrSlice s (l.getD 0) hh fun s' => k (.val (.str s')) h
  | some (.array n e), .val (.ptr (some p)), some l, some hh, some m => ((P.info? e).isSome && (m.isNone || hh.isSome)) && eSlice (tsz P e) (some ⟨p.b, p.o, n, n, 0⟩) (l.getD 0) hh m fun s' => k (.val (.sl s')) h
  | _, _, _, _, _ => false)
 | .makeSlice t l c => (match telem P t with
  | none => false
  | some e => match zcells P e, eevI ρ l, eevI ρ c with
   | some zs, some n, some m => oneAll zs && eMake zs (tbytes P e) n m h fun s' h' => k (.val (.sl s')) h'
   | _, _, _ => false)
 | .sliceToArrayPointer t x => (match P.underlying t, eev ρ x with
  | some (.array n _), .val (.sl (some s)) => (decide (0 < n) && decide (n ≤ s.len)) && k (.val (.ptr (some ⟨s.b, s.o⟩))) h
  | _, _ => false)
 | .makeMap _ r => (match r with | none => eNewB (.mp [] 0) h fun b h' => k (.val (.map (some b))) h' | some _ => false)
 | .lookup t x ix ok => (match P.underlying t, eev ρ x, eev ρ ix, tz P o.type with
  | some (.map kt et), .val (.map m), .val kk, some z => eLookup P kt et m kk ok h fun v => shV z v && k (.val v) h
  | _, _, _, _ => false)
 | .mapUpdate t m kk x => (match P.underlying t, eev ρ m, eev ρ kk, eev ρ x with
  | some (.map kt _), .val (.map (some b)), .val kk, .val v => eUpdate P kt b kk v h fun h' => k .top h'
  | _, _, _, _ => false)
 | .insert t m kk x => (match P.underlying t, eev ρ m, eev ρ kk, eev ρ x with
  | some (.map kt _), .val (.map (some b)), .val kk, .val v => eUpdate P kt b kk v h fun h' => k .top h'
  | _, _, _, _ => false)
 | .mapEntry t m kk => (match P.underlying t, eev ρ m, eev ρ kk with
  | some (.map kt et), .val (.map (some b)), .val kk => eEntryAt P kt et b kk h fun v n h' => k (.val (.tup [v, .int .i64 (.ofNat n)])) h'
  | _, _, _ => false)
 | .entryStore _ m s x => (match eev ρ m, eev ρ s, eev ρ x with
  | .val (.map (some b)), .val (.int _ n), .val v => eEntrySet b n v h fun h' => k .top h'
  | _, _, _ => false)
 | .range t x => (match P.underlying t, eev ρ x with
  | some (.map _ _), .val (.map none) => eNewB (.it none 0 [] 0) h fun b h' => k (.val (.ptr (some ⟨b, 0⟩))) h'
  | some (.map _ _), .val (.map (some b)) => (match h.t.get b with
   | some (.mp _ cl) => eNewB (.it (some b) cl [] cl) h fun b h' => k (.val (.ptr (some ⟨b, 0⟩))) h'
   | _ => false)
  | _, _ => false)
 | .next x isS => (match isS, eev ρ x with
  | false, .val (.ptr (some p)) => decide (p.o = 0) && eNext p.b h fun v h' => k (.val v) h'
  | _, _ => false)
 | .entry x => (match eev ρ x with
  | .val (.ptr (some p)) => decide (p.o = 0) && eEntry p.b h fun v => k (.val v) h
  | _ => false)
 | .extract x i => (match eev ρ x with | .val (.tup vs) => at1 vs i fun v => k (.val v) h | _ => false)
 | .makeFunc fn f c => !fnY fn && fVals ρ f.toList fun a => fVals ρ c.toList fun b => k (.val (.func fn a b)) h
 | .makeInterface t x => (match P.underlying t, eev ρ x with | some (.interface _), _ => false | some _, .val v => k (.val (.iface t v)) h | _, _ => false)
 | .call c => fVals ρ c.args.toList fun args => (match c.callee with
   | .value f => (match eev ρ f, tz P o.type with
    | .val g, some z => eCallF P call g args h fun v h' => shV z v && k (.val v) h'
    | _, _ => false)
   | .invoke r name => (match eev ρ r, tz P o.type with
    | .val g, some z => eInvoke P call g name args h fun v h' => shV z v && k (.val v) h'
    | _, _ => false)
   | .builtin b => eBuiltin P b c.argTypes.toList args h k)
 | _ => false
end Go.Ab
namespace Go.Ab
set_option linter.unusedSimpArgs false
set_option linter.unusedVariables false
def HFor (e : EH) (h : Heap) : Prop := e.t.For h ∧ e.n = h.length
theorem eev_eq {t : T LV} {ρ : List LV} (R : t.For ρ) (x : Operand) : eev t x = ev ρ x := by
 cases x with
 | tmp i => simp only [eev, ev, R i, List.getD]; cases ρ[i]? <;> rfl
 | const v => rfl
 | global _ => rfl
 | func _ => rfl
theorem evals_eq {t : T LV} {ρ : List LV} (R : t.For ρ) : ∀ l, evals t l = vals ρ l
 | [] => rfl
 | o :: os => by
  simp only [evals, vals, eev_eq R, evals_eq R os]
  cases ev ρ o with
  | val x => cases vals ρ os <;> rfl
  | loc _ _ => rfl
  | top => rfl
theorem eevI_eq {t : T LV} {ρ : List LV} (R : t.For ρ) (x : Operand) : eevI t x = evI ρ x := by
 unfold eevI evI
 rw [eev_eq R]
 cases ev ρ x with
 | val v => cases v <;> rfl
 | loc _ _ => rfl
 | top => rfl
theorem eoptI_eq {t : T LV} {ρ : List LV} (R : t.For ρ) (x : Option Operand) : eoptI t x = optI ρ x := by cases x <;> simp only [eoptI, optI, eevI_eq R]
theorem fVals_ok {t : T LV} {ρ : List LV} (R : t.For ρ) : ∀ {l : List Operand} {k : List AV → Bool}, fVals t l k = true → ∃ vs, vals ρ l = some vs ∧ k vs = true
 | [], k, h => ⟨[], rfl, h⟩
 | o :: os, k, h => by
  simp only [fVals, eev_eq R] at h
  cases ho : ev ρ o with
  | val x =>
   rw [ho] at h
   obtain ⟨vs, h1, h2⟩ := fVals_ok R (l := os) h
   exact ⟨x :: vs, by simp only [vals, ho, h1], h2⟩
  | loc _ _ => rw [ho] at h; simp at h
  | top => rw [ho] at h; simp at h
theorem eNew_ok {e : EH} {h : Heap} (H : HFor e h) {c : List AV} {rw : Bool} {k : Nat → EH → Bool} (hk : eNew c rw e k = true) : ∃ e', HFor e' (h ++ [.cells c rw]) ∧ k h.length e' = true := by
 unfold eNew at hk
 rw [H.2] at hk
 obtain ⟨t', h1, h2⟩ := H.1.add hk
 rw [fN_eq] at h1
 exact ⟨_, ⟨h2, by simp⟩, h1⟩
theorem eNewT_ok {e : EH} {h : Heap} (H : HFor e h) {t : TypeId} {c : List AV} {k : Nat → EH → Bool} (hk : eNewT t c e k = true) : ∃ e', HFor e' (h ++ [.bx (.iface t (.tup c))]) ∧ k h.length e' = true := by
 unfold eNewT at hk
 rw [H.2] at hk
 obtain ⟨t', h1, h2⟩ := H.1.add hk
 rw [fN_eq] at h1
 exact ⟨_, ⟨h2, by simp⟩, h1⟩
theorem eAlloc_ok {e : EH} {h : Heap} (H : HFor e h) {b : Bool} {t : TypeId} {zs : List AV} {k : EK} {K : KO} (hK : ∀ v e' h', HFor e' h' → k v e' = true → K v [] h') (ho : oneAll zs = true) (hk : eAlloc b t zs e k = true) : vAlloc b t false zs [] h K := by
 cases b with
 | true =>
  obtain ⟨e', H', h1⟩ := eNewT_ok H (show eNewT t zs e (fun b h' => k (.val (.ptr (some ⟨b, 0⟩))) h') = true from hk)
  exact need_mk ho (hK _ _ _ H' h1)
 | false =>
  obtain ⟨e', H', h1⟩ := eNew_ok H (show eNew zs true e (fun b h' => k (.val (.ptr (some ⟨b, 0⟩))) h') = true from hk)
  exact need_mk ho (hK _ _ _ H' h1)
theorem eCells_ok {e : EH} {h : Heap} (H : HFor e h) {b o n : Nat} {k : List AV → Bool} (hk : eCells e b o n k = true) : ∃ l, cellsAt h ⟨b, o⟩ n = some l ∧ k l = true := by
 unfold eCells at hk
 rw [H.1 b] at hk
 cases hb : h[b]? with
 | none => rw [hb] at hk; simp at hk
 | some B =>
  rw [hb] at hk
  cases B with
  | cells c rw =>
   obtain ⟨h1, h2⟩ := tk_ok hk
   exact ⟨_, by simp only [cellsAt, hb, h1, if_true], h2⟩
  | mp es cl => simp at hk
  | it _ _ _ _ => simp at hk
  | bx _ => simp at hk
  | gm _ _ => simp at hk
  | dead => simp at hk
theorem eslCells_ok {e : EH} {h : Heap} (H : HFor e h) {s : Option SL} {n : Nat} {k : List AV → Bool} (hk : eslCells e s n k = true) : ∃ l, slCells h s n = some l ∧ k l = true := by
 cases s with
 | some s => exact eCells_ok H hk
 | none => cases n with
  | zero => exact ⟨[], rfl, hk⟩
  | succ n => simp [eslCells] at hk
theorem eStore_ok {e : EH} {h : Heap} (H : HFor e h) {b o : Nat} {xs : List AV} {k : EH → Bool} (hk : eStore e b o xs k = true) :
  ∃ c e', h[b]? = some (.cells c true) ∧ o + xs.length ≤ c.length ∧ HFor e' (h.set b (.cells (splice c o xs) true)) ∧ k e' = true := by
 unfold eStore at hk
 rw [H.1 b] at hk
 split at hk
 ·rename_i c hb
  obtain ⟨h1, h2⟩ := spl_ok hk
  obtain ⟨t', h3, h4⟩ := H.1.put h2
  exact ⟨c, _, hb, h1, ⟨h4, by simp [H.2]⟩, h3⟩
 ·simp at hk
theorem sameShape_one {z v : AV} (h : sameShape z v = true) (hz : ∀ c, z ≠ .tup c) : v.one = true := by
 cases z <;> cases v <;> simp_all [sameShape, AV.one]
theorem exL_mk : ∀ {zs l : List AV} {K : List AV → Prop}, sameShapes zs l = true → K l → exL zs K
 | [], [], K, _, hk => hk
 | [], _ :: _, K, h, _ => by simp [sameShapes] at h
 | _ :: _, [], K, h, _ => by simp [sameShapes] at h
 | z :: zs, v :: l, K, h, hk => by
  simp only [sameShapes, Bool.and_eq_true] at h
  obtain ⟨h1, h2⟩ := h
  cases z <;> cases v <;> simp only [sameShape, AV.one, decide_eq_true_eq, Bool.false_eq_true] at h1 <;> simp only [exL]
  case int.int => subst h1; exact ⟨_, exL_mk h2 hk⟩
  case bool.bool => exact ⟨_, exL_mk h2 hk⟩
  case str.str => exact ⟨_, exL_mk h2 hk⟩
  case ptr.ptr => exact ⟨_, exL_mk h2 hk⟩
  case sl.sl => exact ⟨_, exL_mk h2 hk⟩
  case map.map => exact ⟨_, exL_mk h2 hk⟩
  all_goals exact ⟨_, rfl, exL_mk h2 hk⟩
theorem exT_mk : ∀ {vs l : List AV} {K : List AV → Prop}, shT vs l = true → K l → exT vs K
 | [], [], K, _, hk => hk
 | [], _ :: _, K, h, _ => by simp [shT] at h
 | z :: vs, [], K, h, _ => by cases z <;> simp [shT] at h
 | z :: vs, x :: r, K, h, hk => by
  cases z
  case agg zs =>
   cases x <;> simp only [shT, Bool.and_eq_true, Bool.false_eq_true] at h
   simp only [exT]
   exact exL_mk h.1 (exT_mk h.2 hk)
  all_goals
   simp only [shT, Bool.and_eq_true] at h
   simp only [exT]
   exact exL_mk h.1 (exT_mk h.2 hk)
theorem exV_mk {z v : AV} {K : AV → Prop} (h : shV z v = true) (hk : K v) : exV z K := by
 cases z
 case agg zs =>
  cases v <;> simp only [shV, Bool.false_eq_true] at h
  exact exL_mk h hk
 case tup vs =>
  cases v <;> simp only [shV, Bool.false_eq_true] at h
  exact exT_mk h hk
 all_goals
  simp only [shV] at h
  simp only [exV]
  exact exL_mk h hk
theorem ePart_ok {z : AV} {c : List AV} {o : Nat} {k : AV → Bool} {K : AV → Prop} (h : ePart z c o k = true) (hk : ∀ v, k v = true → K v) : part z c o K := by
 cases z
 case agg zs =>
  obtain ⟨h1, h2⟩ := tk_ok h
  simp only [part, isAgg, AV.cells]
  exact need_mk (decide_eq_true h1) (hk _ h2)
 case tup zs => simp [ePart] at h
 all_goals
  obtain ⟨v, h1, h2⟩ := at1_ok h
  simp only [part, isAgg, h1]
  exact hk _ h2
theorem eLoad_ok {e : EH} {h : Heap} (H : HFor e h) {z : AV} {b o : Nat} {k : AV → Bool} {K : AV → Prop} (hk : eLoad z e b o k = true) (hK : ∀ v, k v = true → K v) : PLoad z h ⟨b, o⟩ K := by
 unfold eLoad at hk
 rw [H.1 b] at hk
 split at hk
 ·rename_i c rw hb
  have one : ∀ z : AV, (∀ c, z ≠ .agg c) → (∀ c, z ≠ .tup c) → at1 c o (fun v => sameShape z v && k v) = true → PLoad z h ⟨b, o⟩ K := by
   intro z hz1 hz2 hk
   obtain ⟨v, h1, h2⟩ := at1_ok hk
   simp only [Bool.and_eq_true] at h2
   have hv := cells_of_one (sameShape_one h2.1 hz2)
   have hz : z.cells.length = 1 := by cases z <;> first | rfl | exact absurd rfl (hz1 _)
   have hlt := lt_of_get h1
   refine exV_mk (v := v) ?_ ⟨?_, hK _ h2.2⟩
   ·cases z <;> first | exact absurd rfl (hz1 _) | exact absurd rfl (hz2 _) | simp [shV, sameShapes, h2.1]
   ·simp only [cellsAt, hb, hz, hv]
    rw [if_pos (by omega)]
    congr 1
    rw [List.take_one, List.head?_drop, h1]; rfl
  cases z
  case agg zs =>
   obtain ⟨h1, h2⟩ := tk_ok hk
   simp only [Bool.and_eq_true] at h2
   refine exV_mk (v := .agg _) h2.1 ⟨?_, hK _ h2.2⟩
   simp only [cellsAt, hb, AV.cells, h1, if_true]
  case tup zs => simp at hk
  all_goals exact one _ (fun c h => by cases h) (fun c h => by cases h) hk
 ·simp at hk
theorem ebool_ok {b : Bool} {k : AV → Bool} (h : ebool b k = true) : k (.bool b) = true := by cases b <;> exact h
theorem eInt_ok {op : BinOp} {q : IntKind} {a b : Int} {k : AV → Bool} {K : AV → Prop} (hK : ∀ v, k v = true → K v) (h : eInt op q a b k = true) : aInt op q a b K := by
 cases op <;> simp only [eInt, eint, fI_eq, Bool.and_eq_true, Bool.false_eq_true] at h <;> simp only [aInt]
 case quo => exact need_mk h.1 (hK _ h.2)
 case rem => exact need_mk h.1 (hK _ h.2)
 all_goals first | exact hK _ h | exact hK _ (ebool_ok h)
theorem eStr_ok {op : BinOp} {a b : List UInt8} {k : AV → Bool} {K : AV → Prop} (hK : ∀ v, k v = true → K v) (h : eStr op a b k = true) : aStr op a b K := by
 cases op <;> simp only [eStr, ap_eq, Bool.and_eq_true, Bool.false_eq_true] at h <;> simp only [aStr]
 case add => exact need_mk h.1 (hK _ h.2)
 all_goals first | exact hK _ h | exact hK _ (ebool_ok h)
theorem eeqFs_ok {P : Program} {n : Nat} (ih : ∀ (t : TypeId) (xs ys : List AV) (k : Bool → List AV → List AV → Bool) (K : Bool → List AV → List AV → Prop), (∀ b x y, k b x y = true → K b x y) → eeqT P n t xs ys k = true → eqT P n t xs ys K) :
  ∀ (fs : List Field) (off : Nat) (xs ys : List AV) (k : Bool → List AV → List AV → Bool) (K : Bool → List AV → List AV → Prop), (∀ b x y, k b x y = true → K b x y) → eeqFs P (eeqT P n) fs off xs ys k = true → eqFs P (eqT P n) fs off xs ys K
 | [], off, xs, ys, k, K, hK, h => hK _ _ _ h
 | f :: fs, off, xs, ys, k, K, hK, h => by
  simp only [eeqFs] at h
  rw [Bool.and_eq_true] at h
  simp only [eqFs]
  exact need_mk h.1 (ih _ _ _ _ _ (fun b x y hb => eeqFs_ok ih fs _ _ _ _ _ (fun b' x' y' => hK _ _ _) hb) h.2)
theorem eeqT_ok {P : Program} : ∀ (n : Nat) (t : TypeId) (xs ys : List AV) (k : Bool → List AV → List AV → Bool) (K : Bool → List AV → List AV → Prop), (∀ b x y, k b x y = true → K b x y) → eeqT P n t xs ys k = true → eqT P n t xs ys K
 | 0, t, xs, ys, k, K, hK, h => by simp [eeqT] at h
 | n + 1, t, xs, ys, k, K, hK, h => by
  unfold eeqT at h
  unfold eqT
  split at h
  ·rename_i hu
   rw [Bool.and_eq_true] at h
   simp only [hu]
   exact need_mk h.1 (hK _ _ _ h.2)
  ·rename_i hu
   rw [Bool.and_eq_true] at h
   simp only [hu]
   exact need_mk h.1 (hK _ _ _ h.2)
  ·rename_i hu
   rw [Bool.and_eq_true] at h
   simp only [hu]
   exact need_mk h.1 (hK _ _ _ h.2)
  ·rename_i fs hu
   rw [Bool.and_eq_true] at h
   simp only [hu]
   refine need_mk h.1 (eeqFs_ok (eeqT_ok n) _ _ _ _ _ _ (fun b x y hb => ?_) h.2)
   rw [Bool.and_eq_true] at hb
   exact need_mk hb.1 (hK _ _ _ hb.2)
  ·simp at h
theorem eptrEq_ok {e : EH} {h : Heap} (H : HFor e h) {p q : PA} {k : Bool → Bool} {K : Bool → Prop} (hK : ∀ v, k v = true → K v) (hk : eptrEq e p q k = true) : ptrEq h p q K := by
 unfold eptrEq at hk
 unfold ptrEq
 cases hb : Nat.beq p.b q.b with
 | true => rw [hb] at hk; rw [if_pos (Nat.eq_of_beq_eq_true hb)]; exact hK _ hk
 | false =>
  rw [hb] at hk
  rw [if_neg (Nat.ne_of_beq_eq_false hb)]
  simp only [H.1 p.b, H.1 q.b] at hk
  split at hk
  ·rename_i h1 h2; simp only [h1, h2]; exact hK _ hk
  ·simp at hk
theorem eEq_ok {P : Program} {e : EH} {h : Heap} (H : HFor e h) {t : TypeId} {x y : AV} {k : Bool → Bool} {K : Bool → Prop} (hK : ∀ v, k v = true → K v) (hk : eEq P t e x y k = true) : aEq P t h x y K := by
 unfold eEq at hk
 unfold aEq
 split at hk
 ·rename_i hu; simp only [hu]; exact hK _ hk
 ·rename_i hu; rw [Bool.and_eq_true] at hk; simp only [hu]; exact need_mk hk.1 (eeqT_ok _ _ _ _ _ _ (fun b _ _ hb => hK _ hb) hk.2)
 ·rename_i hu; simp only [hu]; exact hK _ hk
 ·rename_i hu; simp only [hu]; exact hK _ hk
 ·rename_i hu; rw [Bool.and_eq_true] at hk; simp only [hu]; exact need_mk hk.1 (eptrEq_ok H hK hk.2)
 ·rename_i hu; simp only [hu]; exact hK _ hk
 ·rename_i hu; simp only [hu]; exact hK _ hk
 ·rename_i hu; simp only [hu]; exact hK _ hk
 ·rename_i hu; simp only [hu]; exact hK _ hk
 ·simp at hk
theorem eBin_ok {P : Program} {e : EH} {h : Heap} (H : HFor e h) {op : BinOp} {t : TypeId} {x y : AV} {k : AV → Bool} {K : AV → Prop} (hK : ∀ v, k v = true → K v) (hk : eBin P op t e x y k = true) : aBin P op t h x y K := by
 unfold eBin at hk
 split at hk
 ·simp only [aBin]
  unfold eIntS at hk
  unfold aIntS
  split at hk
  ·simp only [fI_eq, Bool.and_eq_true] at hk; exact need_mk hk.1 (hK _ hk.2)
  ·simp only [fI_eq, Bool.and_eq_true] at hk; exact need_mk hk.1 (hK _ hk.2)
  ·rename_i h1 h2
   rw [Bool.and_eq_true] at hk
   split
   ·exact (h1 rfl).elim
   ·exact (h2 rfl).elim
   ·exact need_mk hk.1 (eInt_ok hK hk.2)
 ·simp only [aBin]; exact eStr_ok hK hk
 ·rename_i h1 h2
  rw [aBin_else h1 h2]
  unfold eCmp at hk
  unfold aCmp
  split at hk
  ·exact eEq_ok H (fun b hb => hK _ (ebool_ok hb)) hk
  ·exact eEq_ok H (fun b hb => hK _ (ebool_ok hb)) hk
  ·simp at hk
theorem eUn_ok {op : UnOp} {x : AV} {k : AV → Bool} {K : AV → Prop} (hK : ∀ v, k v = true → K v) (hk : eUn op x k = true) : aUn op x K := by
 unfold eUn at hk
 unfold aUn
 split at hk
 ·simp only [eint, fI_eq] at hk; exact hK _ hk
 ·simp only [fI_eq] at hk; exact hK _ hk
 ·exact hK _ (ebool_ok hk)
 ·simp at hk
theorem eRow_eq (b o len cap opn : Nat) (k : Option SL → Bool) : eRow b o len cap opn k = k (some ⟨b, o, len, cap, opn⟩) := by simp only [eRow, fN_eq]
theorem eAppend_ok {e : EH} {h : Heap} (H : HFor e h) {sz bytes : Nat} {s : Option SL} {n : Nat} {xs : List AV} {k : Option SL → EH → Bool} {K : Option SL → Heap → Prop}
  (hK : ∀ s e' h', HFor e' h' → k s e' = true → K s h') (hk : eAppend sz bytes s n xs e k = true) : PAppend sz bytes s n xs h K := by
 unfold eAppend at hk
 rw [Bool.and_eq_true] at hk
 obtain ⟨h0, hk⟩ := hk
 refine ⟨by simpa using h0, ?_⟩
 split at hk
 ·cases n with
  | zero => exact (if_pos rfl).mpr (hK _ _ _ H hk)
  | succ n =>
   rw [Bool.and_eq_true] at hk
   obtain ⟨h1, hk⟩ := hk
   simp only [Bool.and_eq_true, decide_eq_true_eq] at h1
   obtain ⟨e', H', hk⟩ := eNew_ok H hk
   rw [eRow_eq] at hk
   rw [if_neg (by omega)]
   exact ⟨h1.1, h1.2, hK _ _ _ H' hk⟩
 ·rename_i s
  split at hk
  ·rename_i hle
   have hle' : s.len + n ≤ s.cap := Nat.le_of_ble_eq_true hle
   simp only [hle', if_true]
   rw [H.1 s.b] at hk
   split at hk
   ·rename_i c hb
    obtain ⟨h1, h2⟩ := spl_ok hk
    obtain ⟨t', h3, h4⟩ := H.1.put h2
    rw [eRow_eq] at h3
    simp only [hb]
    exact ⟨h1, hK _ _ _ ⟨h4, by simp [H.2]⟩ h3⟩
   all_goals
    rename_i hb
    cases n with
    | zero => simp only [hb]; exact ⟨trivial, hK _ _ _ H hk⟩
    | succ n => simp at hk
  ·rename_i hle
   have hle' : ¬ s.len + n ≤ s.cap := fun h => by rw [Nat.ble_eq_true_of_le h] at hle; cases hle
   simp only [hle', if_false]
   rw [Bool.and_eq_true] at hk
   obtain ⟨h1, hk⟩ := hk
   simp only [Bool.and_eq_true, decide_eq_true_eq] at h1
   refine ⟨h1.1, h1.2, ?_⟩
   rw [H.1 s.b] at hk
   split at hk
   ·rename_i c rw hb
    obtain ⟨g1, g2⟩ := tk_ok hk
    simp only [cellsAt, hb, g1, if_true]
    cases ho : s.opn with
    | zero =>
     simp only [ho, ap_eq] at g2
     obtain ⟨e', H', g3⟩ := eNew_ok H g2
     rw [eRow_eq] at g3
     simp only [if_true]
     exact hK _ _ _ H' g3
    | succ m =>
     simp only [ho, ap_eq] at g2
     rw [Bool.and_eq_true, Bool.and_eq_true] at g2
     obtain ⟨⟨g4, g5⟩, g6⟩ := g2
     obtain ⟨t', g7, g8⟩ := H.1.put g6
     obtain ⟨e', H', g9⟩ := eNew_ok (e := ⟨t', e.n⟩) (h := h.set s.b .dead) ⟨g8, by simp [H.2]⟩ g7
     rw [eRow_eq] at g9
     have hl : (h.set s.b .dead).length = h.length := by simp
     rw [hl] at g9
     rw [if_neg (by omega)]
     exact ⟨g4, by simpa using g5, hK _ _ _ H' g9⟩
   ·simp at hk
theorem eCopy_ok {e : EH} {h : Heap} (H : HFor e h) {sz : Nat} {s : Option SL} {n : Nat} {xs : List AV} {k : EH → Bool} {K : Heap → Prop} (hK : ∀ e' h', HFor e' h' → k e' = true → K h') (hk : eCopy sz s n xs e k = true) :
  PCopy sz s n xs h K := by
 unfold eCopy at hk
 rw [Bool.and_eq_true] at hk
 obtain ⟨h0, hk⟩ := hk
 refine ⟨by simpa using h0, ?_⟩
 cases s with
 | none => cases n with
  | zero => exact ⟨rfl, hK _ _ H hk⟩
  | succ n => simp at hk
 | some s =>
  simp only at hk
  rw [Bool.and_eq_true] at hk
  obtain ⟨h1, hk⟩ := hk
  obtain ⟨c, e', h2, h3, h4, h5⟩ := eStore_ok H hk
  refine ⟨Nat.le_of_ble_eq_true h1, ?_⟩
  simp only [PStore, h2]
  exact ⟨h3, hK _ _ h4 h5⟩
theorem eSlice_ok {sz : Nat} {s : Option SL} {lo : Int} {hi mx : Option Int} {k : Option SL → Bool} {K : Option SL → Prop} (hK : ∀ s, k s = true → K s) (hk : eSlice sz s lo hi mx k = true) : PSlice sz s lo hi mx K := by
 unfold eSlice at hk
 unfold PSlice
 cases s with
 | none =>
  simp only [Bool.and_eq_true, beq_iff_eq] at hk
  exact ⟨hk.1.1.1, hk.1.1.2, hk.1.2, hK _ hk.2⟩
 | some s =>
  simp only [eRow_eq, Bool.and_eq_true, Bool.or_eq_true, beq_iff_eq, decide_eq_true_eq] at hk
  obtain ⟨⟨⟨⟨⟨h1, h2⟩, h3⟩, h4⟩, h5⟩, h6⟩ := hk
  exact ⟨h1, h2, h3, h4, h5, hK _ h6⟩
theorem estrSlice_ok {s : List UInt8} {lo : Int} {hi : Option Int} {k : List UInt8 → Bool} {K : List UInt8 → Prop} (hK : ∀ s, k s = true → K s) (hk : estrSlice s lo hi k = true) : strSlice s lo hi K := by
 unfold estrSlice at hk
 rw [Bool.and_eq_true] at hk
 obtain ⟨h1, h2⟩ := hk
 simp only [Bool.and_eq_true, decide_eq_true_eq] at h1
 obtain ⟨h3, h4⟩ := tk_ok h2
 refine ⟨h1.1.1, h1.1.2, h1.2, hK _ ?_⟩
 rw [List.drop_take]
 exact h4
theorem eBytes_ok : ∀ {l : List AV} {k : List UInt8 → Bool}, eBytes l k = true → ∃ bs, l = byteAVs bs ∧ k bs = true
 | [], k, h => ⟨[], rfl, h⟩
 | v :: l, k, h => by
  unfold eBytes at h
  split at h
  ·rename_i heq; cases heq
  ·rename_i n l' heq
   cases heq
   split at h
   ·rename_i m
    rw [Bool.and_eq_true] at h
    obtain ⟨h1, h2⟩ := h
    obtain ⟨bs, h3, h4⟩ := eBytes_ok h2
    have hm : m < 256 := by simpa [Nat.blt_eq] using h1
    refine ⟨UInt8.ofNat m :: bs, ?_, h4⟩
    simp only [byteAVs, List.map_cons] at h3 ⊢
    rw [h3]
    congr 2
    simp [Nat.mod_eq_of_lt hm]
   ·simp at h
  ·simp at h
theorem fBytes_eq : ∀ (l : List UInt8) (k : List AV → Bool), fBytes l k = k (byteAVs l)
 | [], k => rfl
 | b :: l, k => by simp only [fBytes, fN_eq, fBytes_eq l]; rfl
theorem eMake_ok {e : EH} {h : Heap} (H : HFor e h) {zs : List AV} {bytes : Nat} {l c : Int} {k : Option SL → EH → Bool} {K : Option SL → Heap → Prop}
  (hK : ∀ s e' h', HFor e' h' → k s e' = true → K s h') (hk : eMake zs bytes l c e k = true) : PMake zs bytes l c h K := by
 unfold eMake at hk
 rw [Bool.and_eq_true] at hk
 obtain ⟨h1, h2⟩ := hk
 simp only [Bool.and_eq_true, decide_eq_true_eq] at h1
 rw [fL_eq] at h2
 obtain ⟨e', H', h3⟩ := eNew_ok H h2
 rw [eRow_eq] at h3
 exact ⟨h1.1.1.1, h1.1.1.2, h1.1.2, h1.2, hK _ _ _ H' h3⟩
theorem ekeyIs_ok {P : Program} {kt : TypeId} {a b : AV} {r : Bool} (h : ekeyIs P kt a b = some r) {K : Bool → Prop} (hk : K r) : keyIs P kt a b K := by
 unfold ekeyIs at h
 unfold keyIs
 generalize P.underlying kt = d at h ⊢
 split at h
 ·split at h
  ·rename_i hd
   cases h
   exact need_mk hd hk
  ·cases h
 ·cases h; exact hk
 ·cases h; exact hk
 ·simp only [h]; exact hk
 ·simp only [h]; exact hk
 ·cases h
theorem efind_ok {P : Program} {kt : TypeId} {k : AV} : ∀ {es : List (AV × AV × Nat)} {i : Nat} {KB : Option (Nat × AV × Nat) → Bool} {K : Option (Nat × AV × Nat) → Prop}, (∀ r, KB r = true → K r) → efind P kt k es i KB = true → findP P kt k es i K
 | [], i, KB, K, hK, h => hK _ h
 | (k', v, n) :: es, i, KB, K, hK, h => by
  unfold efind at h
  unfold findP
  split at h
  ·rename_i he; exact ekeyIs_ok he (hK _ h)
  ·rename_i he
   rw [fN_eq] at h
   exact ekeyIs_ok he (efind_ok hK h)
  ·simp at h
theorem emapEs_eq {e : EH} {h : Heap} (H : HFor e h) (m : Option Nat) : emapEs e m = mapEs h m := by
 cases m with
 | none => rfl
 | some b =>
  simp only [emapEs, mapEs, H.1 b]
  rcases h[b]? with _ | B
  ·rfl
  ·cases B <;> rfl
theorem eLookup_ok {P : Program} {e : EH} {h : Heap} (H : HFor e h) {kt et : TypeId} {m : Option Nat} {k : AV} {ok : Bool} {KB : AV → Bool} {K : AV → Prop} (hK : ∀ v, KB v = true → K v) (hk : eLookup P kt et m k ok e KB = true) :
  PLookup P kt et m k ok h K := by
 unfold eLookup at hk
 rw [emapEs_eq H] at hk
 unfold PLookup
 split at hk
 ·rename_i es z hes hz
  rw [Bool.and_eq_true] at hk
  simp only [hes, hz]
  refine need_mk hk.1 (efind_ok (fun r hr => ?_) hk.2)
  split at hr <;> exact hK _ hr
 ·simp at hk
theorem eset_ok {α : Type} : ∀ {l : List α} {i : Nat} {x : α} {k : List α → Bool}, eset l i x k = true → k (l.set i x) = true
 | [], i, x, k, h => h
 | y :: l, 0, x, k, h => h
 | y :: l, i + 1, x, k, h => eset_ok (l := l) (k := fun l => k (y :: l)) h
theorem eerase_ok {α : Type} : ∀ {l : List α} {i : Nat} {k : List α → Bool}, eerase l i k = true → k (l.eraseIdx i) = true
 | [], i, k, h => h
 | y :: l, 0, k, h => h
 | y :: l, i + 1, k, h => eerase_ok (l := l) (k := fun l => k (y :: l)) h
theorem eUpdate_ok {P : Program} {e : EH} {h : Heap} (H : HFor e h) {kt : TypeId} {b : Nat} {k v : AV} {KB : EH → Bool} {K : Heap → Prop} (hK : ∀ e' h', HFor e' h' → KB e' = true → K h') (hk : eUpdate P kt b k v e KB = true) :
  PUpdate P kt b k v h K := by
 unfold eUpdate at hk
 rw [H.1 b] at hk
 unfold PUpdate
 split at hk
 ·rename_i es cl hb
  rw [Bool.and_eq_true] at hk
  simp only [hb]
  refine need_mk hk.1 (efind_ok (fun r hr => ?_) hk.2)
  split at hr
  ·have := eset_ok hr
   obtain ⟨t', h1, h2⟩ := H.1.put this
   exact hK _ _ ⟨h2, by simp [H.2]⟩ h1
  ·rw [ap_eq, fN_eq] at hr
   obtain ⟨t', h1, h2⟩ := H.1.put hr
   exact hK _ _ ⟨h2, by simp [H.2]⟩ h1
 ·simp at hk
theorem eEntryAt_ok {P : Program} {e : EH} {h : Heap} (H : HFor e h) {kt et : TypeId} {b : Nat} {k : AV} {KB : AV → Nat → EH → Bool} {K : AV → Nat → Heap → Prop} (hK : ∀ v n e' h', HFor e' h' → KB v n e' = true → K v n h') (hk : eEntryAt P kt et b k e KB = true) :
  PEntryAt P kt et b k h K := by
 unfold eEntryAt at hk
 rw [H.1 b] at hk
 unfold PEntryAt
 split at hk
 ·rename_i es cl z hb hz
  rw [Bool.and_eq_true] at hk
  simp only [hb, hz]
  refine need_mk hk.1 (efind_ok (fun r hr => ?_) hk.2)
  split at hr
  ·have := eset_ok hr
   obtain ⟨t', h1, h2⟩ := H.1.put this
   exact hK _ _ _ _ ⟨h2, by simp [H.2]⟩ h1
  ·rw [ap_eq, fN_eq] at hr
   obtain ⟨t', h1, h2⟩ := H.1.put hr
   exact hK _ _ _ _ ⟨h2, by simp [H.2]⟩ h1
 ·simp at hk
theorem emod_ok {n : Int} {v : AV} : ∀ {es : List (AV × AV × Nat)} {k : List (AV × AV × Nat) → Bool}, emod es n v k = true → ∃ i, es.findIdx? (fun e => (e.2.2 : Int) == n) = some i ∧ k (es.modify i fun e => (e.1, v, e.2.2)) = true
 | [], k, h => by simp [emod] at h
 | e :: es, k, h => by
  simp only [emod] at h
  cases hb : (e.2.2 : Int) == n with
  | true =>
   rw [hb] at h
   exact ⟨0, by rw [List.findIdx?_cons, hb]; rfl, by simpa using h⟩
  | false =>
   rw [hb] at h
   obtain ⟨i, h1, h2⟩ := emod_ok h
   exact ⟨i + 1, by rw [List.findIdx?_cons, hb, h1]; rfl, by simpa using h2⟩
theorem eEntrySet_ok {e : EH} {h : Heap} (H : HFor e h) {b : Nat} {n : Int} {v : AV} {KB : EH → Bool} {K : Heap → Prop} (hK : ∀ e' h', HFor e' h' → KB e' = true → K h') (hk : eEntrySet b n v e KB = true) : PEntrySet b n v h K := by
 unfold eEntrySet at hk
 rw [H.1 b] at hk
 unfold PEntrySet
 split at hk
 ·rename_i es cl hb
  rw [Bool.and_eq_true] at hk
  simp only [hb]
  obtain ⟨i, h1, h2⟩ := emod_ok hk.2
  refine need_mk hk.1 ?_
  rw [h1]
  obtain ⟨t', h3, h4⟩ := H.1.put h2
  exact hK _ _ ⟨h4, by simp [H.2]⟩ h3
 ·simp at hk
theorem eDelete_ok {P : Program} {e : EH} {h : Heap} (H : HFor e h) {kt : TypeId} {m : Option Nat} {k : AV} {KB : EH → Bool} {K : Heap → Prop} (hK : ∀ e' h', HFor e' h' → KB e' = true → K h') (hk : eDelete P kt m k e KB = true) :
  PDelete P kt m k h K := by
 unfold eDelete at hk
 unfold PDelete
 split at hk
 ·rw [Bool.and_eq_true] at hk; exact need_mk hk.1 (hK _ _ H hk.2)
 ·rename_i b
  rw [H.1 b] at hk
  split at hk
  ·rename_i es cl hb
   rw [Bool.and_eq_true] at hk
   simp only [hb]
   refine need_mk hk.1 (efind_ok (fun r hr => ?_) hk.2)
   split at hr
   ·have := eerase_ok hr
    obtain ⟨t', h1, h2⟩ := H.1.put this
    exact hK _ _ ⟨h2, by simp [H.2]⟩ h1
   ·obtain ⟨t', h1, h2⟩ := H.1.put hr
    exact hK _ _ ⟨h2, by simp [H.2]⟩ h1
  ·simp at hk
theorem ballE_ok : ∀ {l : List (AV × AV × Nat)} {KB : AV × AV × Nat → Bool} {K : AV × AV × Nat → Prop}, (∀ x, KB x = true → K x) → ballE l KB = true → allE l K
 | [], KB, K, hK, h => trivial
 | [x], KB, K, hK, h => hK _ h
 | x :: y :: l, KB, K, hK, h => by
  simp only [ballE, Bool.and_eq_true] at h
  exact ⟨hK _ h.1, ballE_ok hK h.2⟩
theorem eNext_ok {e : EH} {h : Heap} (H : HFor e h) {b : Nat} {KB : AV → EH → Bool} {K : AV → Heap → Prop} (hK : ∀ v e' h', HFor e' h' → KB v e' = true → K v h') (hk : eNext b e KB = true) : PNext b h K := by
 unfold eNext at hk
 rw [H.1 b] at hk
 unfold PNext
 split at hk
 ·rename_i hb; simp only [hb]; exact hK _ _ _ H hk
 ·rename_i m since seen last hb
  rw [H.1 m] at hk
  simp only [hb]
  split at hk
  ·rename_i es cl hm
   rw [Bool.and_eq_true] at hk
   simp only [hm]
   refine need_mk hk.1 ?_
   replace hk := hk.2
   split at hk
   ·rename_i hl; simp only [hl]; exact hK _ _ _ H hk
   ·rename_i l hne
    split
    ·rename_i hl; exact (hne hl).elim
    ·refine ballE_ok (fun x hx => ?_) hk
     rw [ap_eq] at hx
     obtain ⟨t', h1, h2⟩ := H.1.put hx
     exact hK _ _ _ ⟨h2, by simp [H.2]⟩ h1
  ·simp at hk
 ·simp at hk
theorem eEntry_ok {e : EH} {h : Heap} (H : HFor e h) {b : Nat} {KB : AV → Bool} {K : AV → Prop} (hK : ∀ v, KB v = true → K v) (hk : eEntry b e KB = true) : PEntry b h K := by
 unfold eEntry at hk
 rw [H.1 b] at hk
 unfold PEntry
 split at hk
 ·rename_i m since seen stepped hb
  rw [H.1 m] at hk
  simp only [hb]
  split at hk
  ·rename_i stamp es cl hl hm
   rw [Bool.and_eq_true] at hk
   simp only [hl, hm]
   refine need_mk hk.1 ?_
   replace hk := hk.2
   split at hk
   ·rename_i k v n hf; simp only [hf]; exact hK _ hk
   ·simp at hk
  ·simp at hk
 ·simp at hk
theorem eNewB_ok {e : EH} {h : Heap} (H : HFor e h) {B : Blk} {k : Nat → EH → Bool} (hk : eNewB B e k = true) : ∃ e', HFor e' (h ++ [B]) ∧ k h.length e' = true := by
 unfold eNewB at hk
 rw [H.2] at hk
 obtain ⟨t', h1, h2⟩ := H.1.add hk
 rw [fN_eq] at h1
 exact ⟨_, ⟨h2, by simp⟩, h1⟩
theorem eBuiltin_ok {P : Program} {e : EH} {h : Heap} (H : HFor e h) {b : Builtin} {argT : List TypeId} {args : List AV} {k : EK} {K : KO}
  (hK : ∀ v e' h', HFor e' h' → k v e' = true → K v [] h') (hk : eBuiltin P b argT args e k = true) : vBuiltin P b argT args [] h K := by
 unfold eBuiltin at hk
 split at hk
 ·split at hk
  ·rename_i hu; simp only [vBuiltin, hu]; exact hK _ _ _ H hk
  ·simp at hk
 ·split at hk
  ·rename_i hu; simp only [vBuiltin, hu]; rw [fN_eq] at hk; exact hK _ _ _ H hk
  ·simp at hk
 ·rw [emapEs_eq H] at hk
  split at hk
  ·rename_i hu hes; simp only [vBuiltin, hu, vLenM, hes]; rw [fN_eq] at hk; exact hK _ _ _ H hk
  ·simp at hk
 ·split at hk
  ·rename_i hu; simp only [vBuiltin, hu]; exact eDelete_ok H (fun e' h' H' hs => hK _ _ _ H' hs) hk
  ·simp at hk
 ·split at hk
  ·simp at hk
  ·rename_i e1 he
   split at hk
   ·rename_i hz; simp only [vBuiltin, he, hz, PClear]; exact hK _ _ _ H hk
   ·rename_i zs s hz
    simp only [vBuiltin, he, hz, PClear]
    split at hk
    ·rename_i hl; simp only [hl]; exact hK _ _ _ H hk
    ·rename_i n hl
     rw [Bool.and_eq_true] at hk
     obtain ⟨c, e', h2, h3, h4, h5⟩ := eStore_ok H hk.2
     simp only [hl]
     refine need_mk hk.1 ?_
     simp only [PStore, h2]
     exact ⟨h3, hK _ _ _ h4 h5⟩
   ·simp at hk
 ·split at hk
  ·rename_i hu; simp only [vBuiltin, hu]; exact hK _ _ _ H hk
  ·rename_i hu; simp only [vBuiltin, hu]; rw [Bool.and_eq_true] at hk; exact ⟨by simpa using hk.1, hK _ _ _ H hk.2⟩
  ·simp at hk
 ·split at hk
  ·simp at hk
  ·rename_i e' he
   split at hk
   ·simp at hk
   ·rename_i zs hz
    rw [Bool.and_eq_true] at hk
    obtain ⟨h1, hk⟩ := hk
    simp only [vBuiltin, he, hz]
    refine need_mk h1 ?_
    split at hk
    ·rename_i hi
     rw [Bool.and_eq_true] at hk
     obtain ⟨h2, hk⟩ := hk
     simp only [Bool.and_eq_true, decide_eq_true_eq] at h2
     rw [fN_eq, fL_eq] at hk
     simp only [hi]
     exact need_mk h2.1.1.1 ⟨h2.1.1.2, h2.1.2, h2.2, eAppend_ok H (fun s e' h' H' hs => hK _ _ _ H' hs) hk⟩
    ·rename_i hi
     rw [Bool.and_eq_true] at hk
     obtain ⟨h2, hk⟩ := hk
     obtain ⟨xs, h3, h4⟩ := eslCells_ok H hk
     simp only [hi]
     exact need_mk h2 ⟨xs, h3, eAppend_ok H (fun s e' h' H' hs => hK _ _ _ H' hs) h4⟩
    ·rename_i hi
     rw [Bool.and_eq_true] at hk
     obtain ⟨h2, hk⟩ := hk
     rw [fN_eq, fBytes_eq] at hk
     simp only [hi]
     exact need_mk h2 (eAppend_ok H (fun s e' h' H' hs => hK _ _ _ H' hs) hk)
    ·simp at hk
 ·split at hk
  ·simp at hk
  ·rename_i e' he
   rw [Bool.and_eq_true] at hk
   obtain ⟨h1, hk⟩ := hk
   rw [fN_eq] at hk
   obtain ⟨xs, h3, h4⟩ := eslCells_ok H hk
   simp only [vBuiltin, he]
   refine need_mk h1 ⟨xs, h3, eCopy_ok H (fun e' h' H' hs => ?_) h4⟩
   exact hK _ _ _ H' hs
 ·simp only [vBuiltin]
  unfold eminL at hk
  unfold minL
  split at hk
  ·exact hK _ _ _ H hk
  ·rw [Bool.and_eq_true, fI_eq] at hk; exact need_mk hk.1 (hK _ _ _ H hk.2)
  ·rw [Bool.and_eq_true, fI_eq] at hk; exact need_mk hk.1 (hK _ _ _ H hk.2)
  ·simp at hk
 ·simp only [vBuiltin]
  unfold emaxL at hk
  unfold maxL
  split at hk
  ·exact hK _ _ _ H hk
  ·rw [Bool.and_eq_true, fI_eq] at hk; exact need_mk hk.1 (hK _ _ _ H hk.2)
  ·simp at hk
 ·simp at hk
theorem efillA_ok {place : Nat → Option (Nat × Nat)} : ∀ {ps : List (Nat × AV)} {cells : List AV} {k : List AV → Bool}, efillA place cells ps k = true → ∃ c, fillA place cells ps = some c ∧ k c = true
 | [], cells, k, h => ⟨_, rfl, h⟩
 | (i, v) :: rest, cells, k, h => by
  unfold efillA at h
  unfold fillA
  split at h
  ·simp at h
  ·rename_i off size hp
   rw [Bool.and_eq_true] at h
   obtain ⟨h1, h2⟩ := h
   obtain ⟨h3, h4⟩ := spl_ok h2
   simp only [hp]
   rw [if_neg (by simp at h1; omega)]
   exact efillA_ok h4
theorem epartsA_ok {t : T LV} {ρ : List LV} (R : t.For ρ) {ps : Array (Nat × Operand)} {k : List (Nat × AV) → Bool} (h : epartsA t ps k = true) : ∃ parts, partsA ρ ps = some parts ∧ k parts = true := by
 unfold epartsA at h
 obtain ⟨vs, h1, h2⟩ := fVals_ok R h
 exact ⟨_, by simp only [partsA, h1, Option.map_some], h2⟩
def CallOKH (CH : CallH) (call : ECall) : Prop := ∀ (f : FuncId) (args : List AV) (e : EH) (h : Heap) (k : AV → EH → Bool) (Q : AV → Heap → Prop), HFor e h →
 (∀ v e' h', HFor e' h' → k v e' = true → Q v h') → call f args e k = true → CH f args h Q
abbrev CallOK (P : Program) (call : ECall) : Prop := CallOKH (AC P) call
theorem eInvoke_ok {P : Program} {call : ECall} {CH : CallH} (C : CallOKH CH call) {e : EH} {h : Heap} (H : HFor e h) {r : AV} {name : String} {args : List AV} {k : AV → EH → Bool} {K : AV → Heap → Prop}
  (hK : ∀ v e' h', HFor e' h' → k v e' = true → K v h') (hk : eInvoke P call r name args e k = true) : vInvoke P CH r name args h K := by
 unfold eInvoke at hk
 split at hk
 ·split at hk
  ·rename_i m hm
   rw [Bool.and_eq_true, Bool.not_eq_true'] at hk
   simp only [vInvoke, hm, hk.1]
   exact C _ _ _ _ _ _ H hK hk.2
  ·rename_i hm
   simp only [vInvoke, hm]
   split at hk
   ·rename_i g1 e1 p hma
    simp only [hma]
    split at hk
    ·rename_i z1 hz1
     rw [Bool.and_eq_true, Bool.and_eq_true, Bool.not_eq_true'] at hk
     simp only [hz1, hk.1.2]
     refine eLoad_ok H hk.2 fun x hx => ?_
     simp only [hk.1.1]
     exact C _ _ _ _ _ _ H hK hx
    ·simp at hk
   ·simp at hk
 ·simp at hk
theorem entryZ_none {P : Program} {d : Option Nat} : entryZ P (fun _ => false) d = none := by
 unfold entryZ
 cases d <;> simp
set_option maxHeartbeats 1000000 in
theorem eMark_ok {e : EH} {h : Heap} (H : HFor e h) {g j : Nat} : ∀ {n a : Nat}, eMark e g n a = some j → ∃ b : Nat, h[b]? = some (Blk.gm g j)
 | 0, a, hk => by cases hk
 | n + 1, a, hk => by
  unfold eMark at hk
  split at hk
  ·rename_i g' j' hg
   split at hk
   ·rename_i hb
    cases hk
    have : g = g' := Nat.eq_of_beq_eq_true hb
    subst this
    exact ⟨a, by rw [← H.1 a]; exact hg⟩
   ·exact eMark_ok H hk
  ·cases hk
theorem eop_ok {P : Program} {call : ECall} {CH : CallH} (C : CallOKH CH call) {o : Oper} {t : T LV} {ρ : List LV} (R : t.For ρ) {e : EH} {h : Heap} (H : HFor e h) {k : EK} {K : KO}
  (hK : ∀ v e' h', HFor e' h' → k v e' = true → K v [] h') (hk : eop P call o t e k = true) : vop P (fun _ => false) CH o ρ [] h K := by
 unfold eop at hk
 simp only [eev_eq R, evals_eq R, eevI_eq R, eoptI_eq R] at hk
 unfold vop
 split at hk
 ·rename_i ho; simp only [ho]; exact hK _ _ _ H hk
 ·rename_i ho; simp only [ho]; exact hK _ _ _ H hk
 ·rename_i ho; simp only [ho]
  split at hk
  ·rename_i hc; simp only [hc, vif]; exact hK _ _ _ H hk
  ·rename_i hc; simp only [hc, vif]; exact hK _ _ _ H hk
  ·simp at hk
 ·rename_i ty ho; simp only [ho]
  split at hk
  ·rename_i zs d hz hdst
   rw [Bool.and_eq_true] at hk
   simp only [hz, hdst]; exact eAlloc_ok H hK hk.1 hk.2
  ·simp at hk
 ·rename_i ty x ho; simp only [ho]
  split at hk
  ·rename_i v d hv hdst
   rw [Bool.and_eq_true, Bool.and_eq_true] at hk
   obtain ⟨⟨h0, h1⟩, hk⟩ := hk
   obtain ⟨e', H', h2⟩ := eNew_ok H hk
   cases v <;> first | (simp [isTup] at h0; done) | (simp only [hv, hdst]; exact need_mk h1 (hK _ _ _ H' h2))
  ·simp at hk
 ·rename_i ty x ho; simp only [ho]
  split at hk
  ·rename_i z p hz hx
   rw [Bool.and_eq_true] at hk
   simp only [vLoad, hz, hk.1, hx, vPtr]
   exact eLoad_ok H hk.2 (fun v hv => hK _ _ _ H hv)
  ·simp at hk
 ·rename_i ty a x ho; simp only [ho]
  split at hk
  ·rename_i v p hx ha
   rw [Bool.and_eq_true] at hk
   obtain ⟨c, e', h2, h3, h4, h5⟩ := eStore_ok H hk.2
   simp only [hx, ha, vPtr, PStore, h2]
   exact need_mk hk.1 ⟨h3, hK _ _ _ h4 h5⟩
  ·simp at hk
 ·rename_i x ho; simp only [ho]
  split at hk
  ·rename_i hx; simp only [hx, vPtr]; exact hK _ _ _ H hk
  ·rename_i hx; simp only [hx]; exact hK _ _ _ H hk
  ·rename_i hx; simp only [hx]; exact hK _ _ _ H hk
  ·simp at hk
 ·rename_i op ty x y u ho; simp only [ho]
  split at hk
  ·rename_i a b hx hy
   simp only [hx, hy]
   exact eBin_ok H (fun v hv => hK _ _ _ H hv) hk
  ·simp at hk
 ·rename_i ho; simp only [ho]
  split at hk
  ·rename_i a hx
   simp only [hx]
   exact eUn_ok (fun v hv => hK _ _ _ H hv) hk
  ·simp at hk
 ·rename_i ho; simp only [ho]
  split at hk
  ·rename_i h1 h2 h3
   simp only [eint, fI_eq] at hk
   simp only [h1, h2, h3]
   exact hK _ _ _ H hk
  ·rename_i h1 h2 h3; simp only [h1, h2, h3]; exact hK _ _ _ H hk
  ·rename_i h1 h2 h3
   rw [Bool.and_eq_true, fN_eq] at hk
   simp only [h1, h2, h3]
   exact need_mk hk.1 (hK _ _ _ H hk.2)
  ·rename_i h1 h2 h3
   rw [Bool.and_eq_true] at hk
   obtain ⟨l, h4, h5⟩ := eslCells_ok H hk.2
   obtain ⟨bs, h6, h7⟩ := eBytes_ok h5
   simp only [h1, h2, h3]
   exact need_mk hk.1 ⟨bs, by rw [h4, h6], hK _ _ _ H h7⟩
  ·rename_i h1 h2 h3
   rw [Bool.and_eq_true, Bool.and_eq_true] at hk
   obtain ⟨⟨h4, h5⟩, h6⟩ := hk
   rw [fBytes_eq] at h6
   obtain ⟨e', H', h7⟩ := eNew_ok H h6
   rw [fN_eq] at h7
   simp only [h1, h2, h3]
   exact need_mk h4 ⟨by simpa using h5, hK _ _ _ H' h7⟩
  ·simp at hk
 ·rename_i ho; simp only [ho]
  split at hk
  ·rename_i hf hx
   rw [Bool.and_eq_true, fN_eq] at hk
   simp only [hf, hx, vPtr]
   exact need_mk hk.1 (hK _ _ _ H hk.2)
  ·simp at hk
 ·rename_i ho; simp only [ho]
  split at hk
  ·rename_i hf hx
   split at hk
   ·rename_i z hz
    rw [Bool.and_eq_true] at hk
    simp only [hf, hx, hz]
    exact need_mk hk.1 (ePart_ok hk.2 fun v hv => hK _ _ _ H hv)
   ·simp at hk
  ·simp at hk
 ·rename_i ho; simp only [ho]
  split at hk
  ·rename_i hi hu hx
   rw [Bool.and_eq_true, Bool.and_eq_true, Bool.and_eq_true, fN_eq] at hk
   obtain ⟨⟨⟨h1, h2⟩, h3⟩, hk⟩ := hk
   simp only [hi, hu, hx, vIdx]
   exact need_mk h1 ⟨by simpa using h2, by simpa using h3, hK _ _ _ H hk⟩
  ·rename_i hi hu hx
   rw [Bool.and_eq_true, fN_eq] at hk
   simp only [hi, hu, hx, vPtr]
   exact need_mk hk.1 (hK _ _ _ H hk.2)
  ·rename_i hi hu hx
   split at hk
   ·rename_i j hg
    rw [Bool.and_eq_true, fN_eq] at hk
    obtain ⟨h1, hk⟩ := hk
    obtain ⟨b, hb⟩ := eMark_ok H hg
    simp only [hi, hu, hx]
    exact need_mk h1 ⟨b, j, hb, hK _ _ _ H hk⟩
   ·simp at hk
  ·simp at hk
 ·rename_i ho; simp only [ho]
  split at hk
  ·rename_i hi hu hx
   rw [Bool.and_eq_true] at hk
   obtain ⟨b, h1, h2⟩ := at1_ok hk.2
   rw [fN_eq] at h2
   simp only [hi, hu, hx, strIdx]
   refine ⟨by simpa using hk.1, ?_⟩
   simp only [h1]
   exact hK _ _ _ H h2
  ·simp at hk
 ·rename_i ho; simp only [ho]
  split at hk
  ·rename_i zs fs hz hu
   obtain ⟨parts, h1, h2⟩ := epartsA_ok R hk
   rw [Bool.and_eq_true] at h2
   obtain ⟨c, h3, h4⟩ := efillA_ok h2.2
   simp only [hz, hu, h1]
   refine need_mk h2.1 ?_
   simp only [h3]
   exact hK _ _ _ H h4
  ·rename_i zs n e1 hz hu
   obtain ⟨parts, h1, h2⟩ := epartsA_ok R hk
   rw [Bool.and_eq_true] at h2
   obtain ⟨c, h3, h4⟩ := efillA_ok h2.2
   simp only [hz, hu, h1]
   refine need_mk h2.1 ?_
   simp only [h3]
   exact hK _ _ _ H h4
  ·simp at hk
 ·rename_i ho; simp only [ho]
  split at hk
  ·simp at hk
  ·rename_i e1 he
   split at hk
   ·rename_i zs hz
    obtain ⟨parts, h1, h2⟩ := epartsA_ok R hk
    rw [Bool.and_eq_true, fL_eq] at h2
    obtain ⟨c, h3, h4⟩ := efillA_ok h2.2
    rw [Bool.and_eq_true] at h4
    obtain ⟨e', H', h5⟩ := eNew_ok H h4.2
    simp only [he, hz, h1]
    refine need_mk h2.1 ?_
    simp only [h3]
    exact need_mk h4.1 (hK _ _ _ H' h5)
   ·simp at hk
 ·rename_i ho; simp only [ho]
  split at hk
  ·rename_i hu hx hl hh hm
   rw [Bool.and_eq_true] at hk
   simp only [hu, hx, hl, hh, hm]
   exact need_mk hk.1 (eSlice_ok (fun s hs => hK _ _ _ H hs) hk.2)
  ·rename_i hu hx hl hh hm
   simp only [hu, hx, hl, hh, hm]
   exact estrSlice_ok (fun s hs => hK _ _ _ H hs) hk
  ·rename_i hu hx hl hh hm
   rw [Bool.and_eq_true] at hk
   simp only [hu, hx, hl, hh, hm, vPtr]
   exact need_mk hk.1 (eSlice_ok (fun s hs => hK _ _ _ H hs) hk.2)
  ·simp at hk
 ·rename_i ho; simp only [ho]
  split at hk
  ·simp at hk
  ·rename_i e1 he
   split at hk
   ·rename_i zs n m hz hn hm
    rw [Bool.and_eq_true] at hk
    simp only [he, hz, hn, hm]
    exact need_mk hk.1 (eMake_ok H (fun s e' h' H' hs => hK _ _ _ H' hs) hk.2)
   ·simp at hk
 ·rename_i ho; simp only [ho]
  split at hk
  ·rename_i n _ s hu hx
   rw [Bool.and_eq_true] at hk
   simp only [hu, hx]
   exact need_mk hk.1 (hK _ _ _ H hk.2)
  ·simp at hk
 ·rename_i ho; simp only [ho]
  split at hk
  ·obtain ⟨e', H', h1⟩ := eNewB_ok H hk
   exact hK _ _ _ H' h1
  ·simp at hk
 ·rename_i ho; simp only [ho]
  split at hk
  ·rename_i hu hx hix hz
   simp only [hu, hx, hix, hz]
   refine eLookup_ok H (fun v hv => ?_) hk
   rw [Bool.and_eq_true] at hv
   exact exV_mk hv.1 ⟨rfl, hK _ _ _ H hv.2⟩
  ·simp at hk
 ·rename_i ho; simp only [ho]
  split at hk
  ·rename_i hu hm hkk hx
   simp only [hu, hm, hkk, hx, vMap]
   exact eUpdate_ok H (fun e' h' H' hs => hK _ _ _ H' hs) hk
  ·simp at hk
 ·rename_i ho; simp only [ho]
  split at hk
  ·rename_i hu hm hkk hx
   simp only [hu, hm, hkk, hx, vMap]
   exact eUpdate_ok H (fun e' h' H' hs => hK _ _ _ H' hs) hk
  ·simp at hk
 ·rename_i ho; simp only [ho]
  split at hk
  ·rename_i hu hm hkk
   simp only [hu, hm, hkk, vMap]
   exact eEntryAt_ok H (fun v n e' h' H' hs => hK _ _ _ H' hs) hk
  ·simp at hk
 ·rename_i ho; simp only [ho]
  split at hk
  ·rename_i hm hs hx
   simp only [hm, hs, hx, vMap]
   exact eEntrySet_ok H (fun e' h' H' hs => hK _ _ _ H' hs) hk
  ·simp at hk
 ·rename_i ho; simp only [ho]
  split at hk
  ·rename_i hu hx
   obtain ⟨e', H', h1⟩ := eNewB_ok H hk
   simp only [hu, hx, vRange]
   exact hK _ _ _ H' h1
  ·rename_i b hu hx
   simp only [H.1 b] at hk
   simp only [hu, hx, vRange]
   split at hk
   ·rename_i es cl hb
    obtain ⟨e', H', h1⟩ := eNewB_ok H hk
    simp only [hb]
    exact hK _ _ _ H' h1
   ·simp at hk
  ·simp at hk
 ·rename_i ho; simp only [ho]
  split at hk
  ·rename_i p hx
   rw [Bool.and_eq_true] at hk
   simp only [hx]
   have := eNext_ok H (K := fun v h' => K (.val v) [] h') (fun v e' h' H' hs => hK _ _ _ H' hs) hk.2
   exact need_mk hk.1 this
  ·simp at hk
 ·rename_i ho; simp only [ho]
  split at hk
  ·rename_i p hx
   rw [Bool.and_eq_true] at hk
   simp only [hx, entryZ_none]
   exact need_mk hk.1 (eEntry_ok H (fun v hv => hK _ _ _ H hv) hk.2)
  ·simp at hk
 ·rename_i ho; simp only [ho]
  split at hk
  ·rename_i vs hx
   obtain ⟨v, h1, h2⟩ := at1_ok hk
   simp only [hx, h1]
   exact hK _ _ _ H h2
  ·simp at hk
 ·rename_i ho; simp only [ho]
  rw [Bool.and_eq_true] at hk
  obtain ⟨a, h1, h2⟩ := fVals_ok R hk.2
  obtain ⟨b, h3, h4⟩ := fVals_ok R h2
  have hy := hk.1
  rw [Bool.not_eq_true'] at hy
  simp only [h1, h3, hy]
  exact hK _ _ _ H h4
 ·rename_i ho; simp only [ho]
  split at hk
  ·simp at hk
  ·rename_i d v hne hu hx
   simp only [hu, hx]
   exact hK _ _ _ H hk
  ·simp at hk
 ·rename_i c ho; simp only [ho]
  obtain ⟨args, h1, hk⟩ := fVals_ok R hk
  simp only [h1]
  split at hk
  ·rename_i f hc
   simp only [hc]
   split at hk
   ·rename_i g z hg hz
    simp only [hg, hz]
    have hKK : ∀ v e' h', HFor e' h' → (shV z v && k (.val v) e') = true → exV z fun u => v = u ∧ K (.val u) [] h' := fun v e' h' H' hv => by
     rw [Bool.and_eq_true] at hv
     exact exV_mk hv.1 ⟨rfl, hK _ _ _ H' hv.2⟩
    unfold eCallF at hk
    unfold vCallF
    split at hk
    ·exact eInvoke_ok C H hKK hk
    ·rename_i hne
     split
     ·exact (hne _ _ _ rfl).elim
     ·unfold eCallV at hk
      split at hk
      ·rw [Bool.and_eq_true, Bool.not_eq_true', ap_eq, ap_eq] at hk
       simp only [vCallV, hk.1]
       rw [List.append_assoc]
       exact C _ _ _ _ _ _ H hKK hk.2
      ·simp only [vCallV]
       exact C _ _ _ _ _ _ H hKK hk
      ·simp at hk
   ·simp at hk
  ·rename_i r name hc
   simp only [hc]
   split at hk
   ·rename_i g z hg hz
    simp only [hg, hz]
    exact eInvoke_ok C H (fun v e' h' H' hv => by
     rw [Bool.and_eq_true] at hv
     exact exV_mk hv.1 ⟨rfl, hK _ _ _ H' hv.2⟩) hk
   ·simp at hk
  ·rename_i b hc
   simp only [hc]
   exact eBuiltin_ok H hK hk
 ·simp at hk
abbrev noLoc : Nat → Bool := fun _ => false
def lateC (P : Program) (ops : Array Oper) (i : Nat) : Bool := match ops[i]? with
 | some o => (match o.op, o.guard, o.dst with
  | .alloc t, none, some _ => (bindsOf o).isEmpty && (!(bldT P t) && match zcells P t with | some zs => oneAll zs | none => false)
  | _, _, _ => false)
 | none => false
def lateOk (P : Program) (ops : Array Oper) (rows : List Nat) (m : Nat) (lt : List Nat) : Bool :=
 lt.all (lateC P ops) && (List.range ops.size).all fun i => match ops[i]? with
  | some o => !((bindsOf o).any lt.contains) || ((lt.all fun k => bfBit rows m i k) && (List.range ops.size).all fun k => Nat.beq k i || lt.contains k || (match ops[k]? with | some o' => cls P o' != 0 | none => true) || bfBit rows m i k || bfBit rows m k i)
  | none => true
def lateOf (P : Program) (ops : Array Oper) (rows : List Nat) (m : Nat) : List Nat :=
 match lateOk P ops rows m ((List.range ops.size).filter (lateC P ops)) with
 | true => (List.range ops.size).filter (lateC P ops)
 | false => []
def readyL (ops : Array Oper) (lt listed : List Nat) : List Nat := match (readyE ops listed).filter fun i => !lt.contains i with
 | [] => (readyE ops listed).take 1
 | j :: js => j :: js
def vanyL (P : Program) (call : CallH) (ops : Array Oper) (rows : List Nat) (m : Nat) (lt : List Nat) : Nat → List Nat → St → (St → Prop) → Prop
 | 0, _, _, _ => False
 | n + 1, listed, st, K =>
  match readyRO P ops listed with
  | some i => match ops[i]? with
   | some o => vguarded P noLoc call ops o st fun st' => vanyL P call ops rows m lt n (i :: listed) st' K
   | none => False
  | none => match readyL ops lt listed with
   | [] => need ((List.range ops.size).all listed.contains) (K st)
   | j :: js => vall (j :: js) fun j => match ops[j]? with
    | some o => vguarded P noLoc call ops o st fun st' => need st'.L.isEmpty (rechks P noLoc call ops st' (vanyL P call ops rows m lt n (j :: listed) st' K) (toCheck P ops rows m listed j))
    | none => False
def vdrawL (P : Program) (call : CallH) : DrawH := fun _ ops st K =>
 bfRows ops.toList 0 [] fun rows m => need (okDraw P ops rows m) (need st.L.isEmpty (vanyL P call ops rows m (lateOf P ops rows m) (ops.size + 1) [] st K))
structure LtD (P : Program) (ops : Array Oper) (lt : List Nat) : Prop where
 alc : ∀ a ∈ lt, ∃ o t d zs, ops[a]? = some o ∧ o.op = .alloc t ∧ o.guard = none ∧ o.dst = some d ∧ bindsOf o = [] ∧ zcells P t = some zs ∧ oneAll zs = true ∧ bldT P t = false
 all : ∀ (i : Nat) (o : Oper) (e : Nat), ops[i]? = some o → e ∈ bindsOf o → e ∈ lt → (∀ k ∈ lt, Bf ops i k) ∧ ∀ (k : Nat) (o' : Oper), ops[k]? = some o' → k ≠ i → k ∉ lt → cls P o' = 0 → Bf ops i k ∨ Bf ops k i
theorem lateC_elim {P : Program} {ops : Array Oper} {a : Nat} (h : lateC P ops a = true) : ∃ o t d zs, ops[a]? = some o ∧ o.op = .alloc t ∧ o.guard = none ∧ o.dst = some d ∧ bindsOf o = [] ∧ zcells P t = some zs ∧ oneAll zs = true ∧ bldT P t = false := by
 unfold lateC at h
 split at h
 ·rename_i o ho
  split at h
  ·rename_i t d h1 h2 h3
   rw [Bool.and_eq_true, List.isEmpty_iff] at h
   obtain ⟨h4, h5⟩ := h
   rw [Bool.and_eq_true] at h5
   obtain ⟨h6, h5⟩ := h5
   split at h5
   ·rename_i zs hz
    exact ⟨o, t, d, zs, ho, h1, h2, h3, h4, hz, h5, by simpa using h6⟩
   ·cases h5
  ·cases h
 ·cases h
theorem ltD_of {P : Program} {ops : Array Oper} {rows : List Nat} {m : Nat} (hb : ∀ i j, bfBit rows m i j = true → Bf ops i j) : LtD P ops (lateOf P ops rows m) := by
 unfold lateOf
 split
 ·rename_i h
  generalize (List.range ops.size).filter (lateC P ops) = lt at h
  simp only [lateOk, Bool.and_eq_true, List.all_eq_true, List.mem_range] at h
  obtain ⟨h1, h2⟩ := h
  refine ⟨fun a ha => lateC_elim (h1 a ha), fun i o e ho he hl => ?_⟩
  have h3 := h2 i (Array.getElem?_eq_some_iff.1 ho).1
  rw [ho] at h3
  have hany : (bindsOf o).any lt.contains = true := List.any_eq_true.2 ⟨e, he, by simpa using hl⟩
  simp only [hany, Bool.not_true, Bool.false_or, Bool.and_eq_true, List.all_eq_true, List.mem_range] at h3
  refine ⟨fun k hk => hb _ _ (h3.1 k hk), fun k o' ho' hne hnl hc => ?_⟩
  have h4 := h3.2 k (Array.getElem?_eq_some_iff.1 ho').1
  rw [ho'] at h4
  simp only [Bool.or_eq_true, hc] at h4
  rcases h4 with (((h4 | h4) | h4) | h4) | h4
  ·exact absurd (Nat.eq_of_beq_eq_true h4) hne
  ·exact absurd (by simpa using h4) hnl
  ·simp at h4
  ·exact .inl (hb _ _ h4)
  ·exact .inr (hb _ _ h4)
 ·exact ⟨fun a ha => absurd ha (by simp), fun i o e _ _ hl => absurd hl (by simp)⟩
theorem Bf.none {ops : Array Oper} {i k : Nat} {o : Oper} (ho : ops[i]? = some o) (hb : bindsOf o = []) : ¬ Bf ops i k := by
 intro h
 cases h with
 | edge ho' he => rw [ho] at ho'; cases ho'; rw [hb] at he; cases he
 | via ho' he _ => rw [ho] at ho'; cases ho'; rw [hb] at he; cases he
section
variable {P : Program} {μ0 : Ren} {h0 : Heap} {w0 : World} {ops : Array Oper} {lt : List Nat}
structure Adv (w0 : World) (μ : Ren) (h : Heap) (w : World) (zs : List AV) (r : Nat) : Prop where
 new : w0.heap.size ≤ r
 lt : r < w.heap.size
 free : ∀ (b : Nat) (B : Blk) (e : ME), h[b]? = some B → B.live = true → μ[b]? = some e → e.r ≠ r
 blk : ∃ C t, w.heap[r]? = some (.cells C t (0, 0)) ∧ relL μ zs C.toList
theorem live_of_rw {B : Blk} (h : B.rw = true) : B.live = true := by cases B <;> first | rfl | (cases h)
theorem Adv.step {μ μ2 : Ren} {h h2 : Heap} {w w2 : World} {zs : List AV} {r : Nat} (A : Adv w0 μ h w zs r) (E : Evo μ h w μ2 h2 w2) : Adv w0 μ2 h2 w2 zs r := by
 have hs : w2.heap[r]? = w.heap[r]? := E.frame r A.lt fun b B e hb hrw he => A.free b B e hb (live_of_rw hrw) he
 obtain ⟨C, t, h1, h2⟩ := A.blk
 refine ⟨A.new, Nat.lt_of_lt_of_le A.lt E.size, fun b B e hb hlv he => ?_, ⟨C, t, hs.trans h1, relL.mono E.le _ _ h2⟩⟩
 rcases E.liv b B e hb hlv he with h | ⟨b0, B0, e0, k1, k2, k3, k4⟩
 ·have := A.lt; omega
 ·rw [← k4]; exact A.free b0 B0 e0 k1 k2 k3
structure DInvL (P : Program) (μ0 : Ren) (h0 : Heap) (w0 : World) (ops : Array Oper) (lt : List Nat) (ws : List Nat) (μ : Ren) (lam : List Nat) (a : Act)
  (lA : List Nat) (st : St) (lR : Array Bool) (ρR : List LV) (a' : Act) (w' : World) (μ' : Ren) (lam' : List Nat) (ra : Nat → Nat) : Prop where
 size : lR.size = ops.size
 sub : ∀ i, Lr lR i → i ∈ lA ∨ i ∈ lt
 clA : ∀ (i : Nat) (o : Oper), ops[i]? = some o → i ∈ lA → ∀ e ∈ bindsOf o, e ∈ lA
 clR : ∀ (i : Nat) (o : Oper), ops[i]? = some o → Lr lR i → ∀ e ∈ bindsOf o, Lr lR e
 owed : ∀ i, i ∈ lA → ¬ Lr lR i → Own P noLoc ops i st
 len : ρR.length = st.ρ.length
 view : ∀ t, (∃ i o, i ∈ lA ∧ ¬ Lr lR i ∧ ops[i]? = some o ∧ o.dst = some t) ∨ (∃ i o, i ∈ lt ∧ Lr lR i ∧ i ∉ lA ∧ ops[i]? = some o ∧ o.dst = some t) ∨ ρR[t]? = st.ρ[t]?
 emp : st.L = []
 adv : ∀ (i : Nat) (o : Oper) (t d : Nat) (zs : List AV), i ∈ lt → Lr lR i → i ∉ lA → ops[i]? = some o → o.op = .alloc t → o.dst = some d → zcells P t = some zs → (d < a'.tmps.size → a'.tmps.getD d undef = .pointer (some ⟨ra i, 0, none⟩)) ∧ Adv w0 μ' st.h w' zs (ra i)
 dist : ∀ i j, i ∈ lt → j ∈ lt → Lr lR i → Lr lR j → i ∉ lA → j ∉ lA → i ≠ j → ra i ≠ ra j
 post : Post μ0 h0 w0 μ lam a ws ⟨ρR, st.L, st.h⟩ a' w' μ' lam'
theorem LtD.cls0 (T : LtD P ops lt) {i : Nat} (h : i ∈ lt) {o : Oper} (ho : ops[i]? = some o) : cls P o = 0 := by
 obtain ⟨o', t, d, zs, h1, h2, _⟩ := T.alc i h
 rw [ho] at h1; cases h1
 unfold cls
 rw [h2]
theorem cls_cases (o : Oper) : cls P o = 0 ∨ cls P o = 1 ∨ cls P o = 2 := by
 unfold cls
 repeat' split
 all_goals simp
theorem owed_step (D : OkD P ops) {rows : List Nat} {m : Nat} {lA : List Nat} {st : St} {lR : Array Bool} {i : Nat} {o : Oper} {lv : LV} {L' : Locs} {h' : Heap} (ho : ops[i]? = some o) (hiA : i ∉ lA)
  (clA : ∀ (i : Nat) (o : Oper), ops[i]? = some o → i ∈ lA → ∀ e ∈ bindsOf o, e ∈ lA) (hbf : ∀ k, Bf ops i k → Lr lR k) (hbit : ∀ k, bfBit rows m i k = true → Lr lR k)
  (hre : ∀ k ∈ toCheck P ops rows m lA i, rechk1 P noLoc (AC P) ops k (st.put o.dst lv L' h')) {k : Nat} (hkA : k ∈ lA) (hkR : ¬ Lr lR k) (hO : Own P noLoc ops k st) : Own P noLoc ops k (st.put o.dst lv L' h') := by
 have hki : k ≠ i := by rintro rfl; exact hiA hkA
 have hlook : ∀ d o', o.dst = some d → ops[k]? = some o' → d ∉ o'.looksAt ops := by
  intro d o' hd ho' hl
  rcases D.look k i o' o d ho' ho hki hd hl with hb | ⟨hb, _⟩
  ·exact hiA (hb.closed (S := (· ∈ lA)) clA fun o2 ho2 e he => clA k o2 ho2 hkA e he)
  ·exact hkR (hbf k hb)
 have hO2 := hO.put D (lv := lv) ho (Ne.symm hki) hlook
 obtain ⟨o', ho', hc, lv2, hv2, hs2⟩ := hO2
 by_cases hc1 : cls P o' = 1
 ·obtain ⟨lv3, ⟨h1, _, _⟩, _, h3⟩ := vg_same hc hv2
  subst h1
  exact ⟨o', ho', hc, lv3, h3 hc1 _ _, hs2⟩
 ·have hc2 : cls P o' = 2 := by rcases cls_cases (P := P) o' with h | h | h; exact absurd h hc; exact absurd h hc1; exact h
  have hm : k ∈ toCheck P ops rows m lA i := by
   unfold toCheck
   rw [List.mem_filter]
   refine ⟨hkA, ?_⟩
   simp only [ho', hc2, beq_self_eq_true, Bool.true_and, Bool.not_eq_true']
   cases hb : bfBit rows m i k with
   | false => rfl
   | true => exact absurd (hbit k hb) hkR
  have := hre k hm
  unfold rechk1 at this
  simp only [ho'] at this
  obtain ⟨lv3, h1, h2, _⟩ := vg_same hc this
  refine ⟨o', ho', hc, lv3, h2, fun d hd => ?_⟩
  simp only [hd] at h1
  rw [h1]
  refine List.ext_getElem? fun t => ?_
  rw [List.getElem?_set]
  split
  ·rename_i hdt
   subst hdt
   split
   ·rename_i hlt
    simp [List.getD, hlt]
   ·rename_i hlt
    simp [List.getElem?_eq_none (Nat.le_of_not_lt hlt)]
  ·rfl
variable {ws : List Nat} {μ : Ren} {lam : List Nat} {a : Act} {K : St → Prop} {rows : List Nat} {m : Nat}
theorem ro_step (D : OkD P ops) (T : LtD P ops lt) {lR : Array Bool} {ρR : List LV} {a' : Act} {w' : World} {μ' : Ren} {lam' : List Nat} {ra : Nat → Nat} {n : Nat} {lA : List Nat} {st : St} {i : Nat} (hr : readyRO P ops lA = some i)
  (h : vanyL P (AC P) ops rows m lt (n + 1) lA st K) (I : DInvL P μ0 h0 w0 ops lt ws μ lam a lA st lR ρR a' w' μ' lam' ra) :
  ∃ st', vanyL P (AC P) ops rows m lt n (i :: lA) st' K ∧ DInvL P μ0 h0 w0 ops lt ws μ lam a (i :: lA) st' lR ρR a' w' μ' lam' ra := by
 obtain ⟨hni, o, ho, hc, hb⟩ := readyRO_some hr
 simp only [vanyL, hr, ho] at h
 obtain ⟨lv, hk, hv, h1⟩ := vg_same hc (vg_of h)
 refine ⟨_, hk, ?_⟩
 have hself : ∀ d, o.dst = some d → d ∉ o.looksAt ops := fun d hd => D.self i o d ho hd hc
 have hnl : i ∉ lt := fun hl => hc (T.cls0 hl ho)
 have hnR : ¬ Lr lR i := fun hl => (I.sub i hl).elim hni hnl
 exact {
  size := I.size
  sub := fun k hk => (I.sub k hk).imp (List.mem_cons_of_mem _) id
  clA := by
   intro k o' ho' hk' e he
   rcases List.mem_cons.1 hk' with rfl | hk'
   ·rw [ho] at ho'; cases ho'
    exact List.mem_cons_of_mem _ (hb e he)
   ·exact List.mem_cons_of_mem _ (I.clA k o' ho' hk' e he)
  clR := I.clR
  owed := by
   intro k hk' hn
   by_cases hki : k = i
   ·subst hki
    refine ⟨o, ho, hc, lv, ?_, ?_⟩
    ·simp only [St.put]
     rw [vg_congr (ρ' := st.ρ)]
     ·exact hv
     ·intro t ht
      split
      ·rename_i d hd
       rw [List.getElem?_set, if_neg]
       intro h; subst h
       exact hself _ hd ht
      ·rfl
    ·intro d hd
     simp only [St.put, hd, List.set_set]
   ·have hkA : k ∈ lA := (List.mem_cons.1 hk').resolve_left hki
    have hO := I.owed k hkA hn
    refine hO.put D ho (Ne.symm hki) fun d o' hd ho' hl => ?_
    rcases D.look k i o' o d ho' ho hki hd hl with hbf | ⟨_, hcc⟩
    ·exact hni (hbf.closed (S := (· ∈ lA)) I.clA fun o2 ho2 e he => I.clA k o2 ho2 hkA e he)
    ·obtain ⟨o2, ho2, hc2, _⟩ := hO
     rw [ho'] at ho2; cases ho2
     exact hcc.elim hc2 hc
  len := by
   simp only [St.put]
   split <;> simp [I.len]
  view := by
   intro t
   by_cases ht : o.dst = some t
   ·exact .inl ⟨i, o, by simp, hnR, ho, ht⟩
   ·rcases I.view t with ⟨k, o', h1, h2, h3, h4⟩ | ⟨k, o', h1, h2, h3, h4, h5⟩ | hv
    ·exact .inl ⟨k, o', List.mem_cons_of_mem _ h1, h2, h3, h4⟩
    ·refine .inr (.inl ⟨k, o', h1, h2, fun hm => ?_, h4, h5⟩)
     rcases List.mem_cons.1 hm with rfl | hm
     ·exact hnl h1
     ·exact h3 hm
    ·refine .inr (.inr ?_)
     rw [hv]
     simp only [St.put]
     split
     ·rename_i d hd
      rw [List.getElem?_set, if_neg]
      intro h; subst h; exact ht hd
     ·rfl
  emp := I.emp
  adv := fun k o' t d zs h1 h2 h3 => I.adv k o' t d zs h1 h2 fun hm => h3 (List.mem_cons_of_mem _ hm)
  dist := fun j k h1 h2 h3 h4 h5 h6 => I.dist j k h1 h2 h3 h4 (fun hm => h5 (List.mem_cons_of_mem _ hm)) fun hm => h6 (List.mem_cons_of_mem _ hm)
  post := by simpa [St.put] using I.post }
end
theorem LRel.nil {w0 w : World} {μ : Ren} {h : Heap} : LRel w0 μ h [] [] w :=
 ⟨rfl, fun k c r h => by simp at h, fun k1 k2 r h => by simp at h, fun k r b B e h => by simp at h, fun k r h => by simp at h⟩
theorem Rel.lam_nil {μ0 : Ren} {h0 : Heap} {w0 : World} {μ : Ren} {lam : List Nat} {h : Heap} {w : World} (R : Rel μ0 h0 w0 μ lam [] h w) : lam = [] := by
 have := R.locs.len
 exact List.eq_nil_of_length_eq_zero this
theorem Rel.here {μ0 : Ren} {h0 : Heap} {w0 : World} {μ : Ren} {h : Heap} {w : World} (R : Rel μ0 h0 w0 μ [] [] h w) : Rel μ h w μ [] [] h w := ⟨Evo.refl _ _ _, R.heap, LRel.nil⟩
section
variable {P : Program} {μ0 : Ren} {h0 : Heap} {w0 : World} {ops : Array Oper} {lt : List Nat} {ws : List Nat} {μ : Ren} {lam : List Nat} {a : Act} {K : St → Prop} {rows : List Nat} {m : Nat}
theorem readyE_mem {lA : List Nat} {i : Nat} : i ∈ readyE ops lA ↔ i < ops.size ∧ i ∉ lA ∧ ∃ o, ops[i]? = some o ∧ ∀ e ∈ bindsOf o, e ∈ lA := by
 unfold readyE
 simp only [List.mem_filter, List.mem_range, Bool.and_eq_true, Bool.not_eq_true', List.contains_eq_mem, decide_eq_false_iff_not]
 constructor
 ·rintro ⟨h1, h2, h3⟩
  refine ⟨h1, h2, ?_⟩
  split at h3
  ·rename_i o ho
   exact ⟨o, ho, by simpa using h3⟩
  ·cases h3
 ·rintro ⟨h1, h2, o, ho, h3⟩
  exact ⟨h1, h2, by rw [ho]; simpa using h3⟩
theorem readyRO_none {lA : List Nat} (h : readyRO P ops lA = none) {i : Nat} {o : Oper} (ho : ops[i]? = some o) (hi : i ∉ lA) (hb : ∀ e ∈ bindsOf o, e ∈ lA) : cls P o = 0 := by
 have := List.find?_eq_none.1 h i (List.mem_range.2 (Array.getElem?_eq_some_iff.1 ho).1)
 rw [ho] at this
 by_cases hc : cls P o = 0
 ·exact hc
 ·exfalso
  apply this
  simp only [Bool.and_eq_true, Bool.not_eq_true', List.contains_eq_mem, decide_eq_false_iff_not, bne_iff_ne, List.all_eq_true, decide_eq_true_eq]
  exact ⟨hi, hc, fun e he => by simpa using hb e he⟩
theorem link (D : OkD P ops) (T : LtD P ops lt) (hws : ∀ (i : Nat) (o : Oper) (d : Nat), ops[i]? = some o → o.dst = some d → d ∈ ws) {lR : Array Bool} {ρR : List LV} {a' : Act} {w' : World} {μ' : Ren} {lam' : List Nat} {ra : Nat → Nat} {n : Nat} {lA : List Nat} {st : St}
  (hbit : ∀ i j, bfBit rows m i j = true → Bf ops i j)
  (hro : readyRO P ops lA = none) (hE : (readyE ops lA).filter (fun i => !lt.contains i) = []) (hall : ∀ a ∈ lt, Lr lR a) {a0 : Nat} (ha0 : a0 ∈ lt) (hn0 : a0 ∉ lA)
  (h : vanyL P (AC P) ops rows m lt (n + 1) lA st K) (I : DInvL P μ0 h0 w0 ops lt ws μ lam a lA st lR ρR a' w' μ' lam' ra) :
  ∃ lA' st' ρR' μ2, vanyL P (AC P) ops rows m lt n lA' st' K ∧ DInvL P μ0 h0 w0 ops lt ws μ lam a lA' st' lR ρR' a' w' μ2 lam' ra := by
 have hne : a0 ∈ readyE ops lA := by
  obtain ⟨o, t, d, zs, h1, h2, h3, h4, h5, _⟩ := T.alc a0 ha0
  exact readyE_mem.2 ⟨(Array.getElem?_eq_some_iff.1 h1).1, hn0, o, h1, by rw [h5]; simp⟩
 obtain ⟨c, cs, hcs⟩ : ∃ c cs, readyE ops lA = c :: cs := by
  cases he : readyE ops lA with
  | nil => rw [he] at hne; cases hne
  | cons c cs => exact ⟨c, cs, rfl⟩
 have hcE : c ∈ readyE ops lA := by rw [hcs]; simp
 have hcl : c ∈ lt := by
  have := List.filter_eq_nil_iff.1 hE c hcE
  simpa using this
 have hcA : c ∉ lA := (readyE_mem.1 hcE).2.1
 obtain ⟨o, t, d, zs, ho, hop, hg, hd, hb, hz, hone, hbt⟩ := T.alc c hcl
 have hL : readyL ops lt lA = [c] := by
  unfold readyL
  rw [hE, hcs]
  rfl
 simp only [vanyL, hro, hL, vall, ho] at h
 unfold vguarded at h
 simp only [hg] at h
 unfold vop at h
 simp only [hop, hz, hd, hbt, vAlloc] at h
 obtain ⟨_, h⟩ := need_elim h
 simp only [PNew] at h
 obtain ⟨_, h⟩ := need_elim h
 obtain ⟨h, hre⟩ := rechks_elim h
 have hcR := hall c hcl
 obtain ⟨htm, A⟩ := I.adv c o t d zs hcl hcR hcA ho hop hd hz
 obtain ⟨C, ty, hw, hrel⟩ := A.blk
 have hlam : lam' = [] := by
  have := I.post.rel
  simp only [I.emp] at this
  exact this.lam_nil
 have hlen := hrel.length
 have R := I.post.rel.adopt ⟨ra c, 0, C.size⟩ (.cells zs true) (.inl A.new) A.lt ⟨C, ty, (0, 0), hw, by simp, by show zs.length ≤ C.size; have h9 := hlen; simp at h9; omega, hone, fun i x hx => by
   obtain ⟨y, hy, hr⟩ := hrel.get hx
   exact ⟨y, by simpa using hy, AV.rel.mono (Ren.le_append _ _) _ _ hr⟩, fun _ => rfl⟩ A.free (by rw [hlam]; simp)
 have hml : μ'.length = st.h.length := I.post.rel.heap.len
 refine ⟨c :: lA, st.put (some d) (.val (.ptr (some ⟨st.h.length, 0⟩))) st.L (st.h ++ [.cells zs true]), ρR.set d (.val (.ptr (some ⟨st.h.length, 0⟩))), μ' ++ [⟨ra c, 0, C.size⟩], h, ?_⟩
 have E2 : EnvRel (μ' ++ [⟨ra c, 0, C.size⟩]) lam' (ρR.set d (.val (.ptr (some ⟨st.h.length, 0⟩)))) a'.tmps := by
  have E := I.post.env.mono (Ren.le_append μ' [⟨ra c, 0, C.size⟩]) (lamLe.refl lam')
  refine ⟨by rw [List.length_set]; exact E.len, fun x lv hx => ?_⟩
  rw [List.getElem?_set] at hx
  split at hx
  ·rename_i hdx
   subst hdx
   split at hx
   ·rename_i hlt
    cases hx
    rw [htm (by rw [← E.len]; exact hlt)]
    exact ⟨⟨ra c, 0, C.size⟩, by rw [← hml]; simp, by simp⟩
   ·cases hx
  ·exact E.get x lv hx
 exact {
  size := I.size
  sub := fun k hk => (I.sub k hk).imp (List.mem_cons_of_mem _) id
  clA := by
   intro k o' ho' hk' e he
   rcases List.mem_cons.1 hk' with rfl | hk'
   ·rw [ho] at ho'; cases ho'
    rw [hb] at he; cases he
   ·exact List.mem_cons_of_mem _ (I.clA k o' ho' hk' e he)
  clR := I.clR
  owed := by
   intro k hk' hn
   have hkc : k ≠ c := by rintro rfl; exact hn hcR
   have hkA : k ∈ lA := (List.mem_cons.1 hk').resolve_left hkc
   have := owed_step (o := o) (lv := .val (.ptr (some ⟨st.h.length, 0⟩))) (L' := st.L) (h' := st.h ++ [.cells zs true]) D ho hcA I.clA (fun k hk => absurd hk (Bf.none ho hb)) (fun k hk => absurd (hbit _ _ hk) (Bf.none ho hb)) (fun k hk => by rw [hd]; exact hre k hk) hkA hn (I.owed k hkA hn)
   rw [hd] at this
   exact this
  len := by simp [St.put, I.len]
  view := by
   intro x
   by_cases hx : d = x
   ·subst hx
    refine .inr (.inr ?_)
    simp only [St.put, List.getElem?_set, I.len, if_true]
   ·rcases I.view x with ⟨k, o', h1, h2, h3, h4⟩ | ⟨k, o', h1, h2, h3, h4, h5⟩ | hv
    ·exact .inl ⟨k, o', List.mem_cons_of_mem _ h1, h2, h3, h4⟩
    ·refine .inr (.inl ⟨k, o', h1, h2, fun hm => ?_, h4, h5⟩)
     rcases List.mem_cons.1 hm with rfl | hm
     ·rw [ho] at h4; cases h4
      rw [hd] at h5
      exact hx (Option.some.inj h5)
     ·exact h3 hm
    ·refine .inr (.inr ?_)
     simp only [St.put, List.getElem?_set, if_neg hx]
     exact hv
  emp := I.emp
  adv := by
   intro k o' t' d' zs' h1 h2 h3 h4 h5 h6 h7
   have hkA : k ∉ lA := fun hm => h3 (List.mem_cons_of_mem _ hm)
   have hkc : c ≠ k := by rintro rfl; exact h3 (by simp)
   obtain ⟨g1, g2⟩ := I.adv k o' t' d' zs' h1 h2 hkA h4 h5 h6 h7
   refine ⟨g1, ⟨g2.new, g2.lt, fun b B e hb2 hlv he => ?_, ?_⟩⟩
   ·have hb3 : b < (st.h ++ [Blk.cells zs true]).length := lt_of_get hb2
    rw [List.length_append, List.length_singleton] at hb3
    rcases Nat.lt_or_ge b st.h.length with hlt | hge
    ·have hb2' : st.h[b]? = some B := by
      have : (st.h ++ [Blk.cells zs true])[b]? = some B := hb2
      rw [List.getElem?_append_left hlt] at this; exact this
     rw [List.getElem?_append_left (by omega)] at he
     exact g2.free b B e hb2' hlv he
    ·have : b = st.h.length := by omega
     subst this
     rw [List.getElem?_append_right (by omega), hml] at he
     simp at he
     subst he
     exact I.dist c k hcl h1 hcR h2 hcA hkA hkc
   ·obtain ⟨C2, t2, k1, k2⟩ := g2.blk
    exact ⟨C2, t2, k1, relL.mono (Ren.le_append _ _) _ _ k2⟩
  dist := fun j k h1 h2 h3 h4 h5 h6 => I.dist j k h1 h2 h3 h4 (fun hm => h5 (List.mem_cons_of_mem _ hm)) fun hm => h6 (List.mem_cons_of_mem _ hm)
  post := ⟨R, E2, I.post.le.trans (Ren.le_append _ _), I.post.lle, I.post.defers, I.post.size, I.post.keep⟩ }
theorem saturateL (D : OkD P ops) (T : LtD P ops lt) (hws : ∀ (i : Nat) (o : Oper) (d : Nat), ops[i]? = some o → o.dst = some d → d ∈ ws) (hbit : ∀ i j, bfBit rows m i j = true → Bf ops i j) {lR : Array Bool} {a' : Act} {w' : World} {lam' : List Nat} {ra : Nat → Nat} :
  ∀ (n : Nat) (lA : List Nat) (st : St) (ρR : List LV) (μ' : Ren), vanyL P (AC P) ops rows m lt n lA st K → DInvL P μ0 h0 w0 ops lt ws μ lam a lA st lR ρR a' w' μ' lam' ra →
   ∃ n' lA' st' ρR' μ2, vanyL P (AC P) ops rows m lt (n' + 1) lA' st' K ∧ DInvL P μ0 h0 w0 ops lt ws μ lam a lA' st' lR ρR' a' w' μ2 lam' ra ∧ readyRO P ops lA' = none ∧
    ((∀ a ∈ lt, Lr lR a) → (readyE ops lA').filter (fun i => !lt.contains i) ≠ [] ∨ ∀ a ∈ lt, a ∈ lA')
 | 0, _, _, _, _, h, _ => h.elim
 | n + 1, lA, st, ρR, μ', h, I => by
  cases hr : readyRO P ops lA with
  | some i =>
   obtain ⟨st', h', I'⟩ := ro_step D T hr h I
   exact saturateL D T hws hbit n _ _ _ _ h' I'
  | none =>
   by_cases hc : (∀ a ∈ lt, Lr lR a) → (readyE ops lA).filter (fun i => !lt.contains i) ≠ [] ∨ ∀ a ∈ lt, a ∈ lA
   ·exact ⟨n, lA, st, ρR, μ', h, I, hr, hc⟩
   ·have h1 : ∀ a ∈ lt, Lr lR a := Classical.byContradiction fun hx => hc fun hy => absurd hy hx
    have h2 : (readyE ops lA).filter (fun i => !lt.contains i) = [] := Classical.byContradiction fun hx => hc fun _ => .inl hx
    have h3 : ∃ a0, a0 ∈ lt ∧ a0 ∉ lA := Classical.byContradiction fun hx => hc fun _ => .inr fun a ha => Classical.byContradiction fun hb => hx ⟨a, ha, hb⟩
    obtain ⟨a0, k1, k2⟩ := h3
    obtain ⟨lA', st', ρR', μ2, h', I'⟩ := link D T hws hbit hr h2 h1 k1 k2 h I
    exact saturateL D T hws hbit n _ _ _ _ h' I'
theorem draw_mainL (D : OkD P ops) (T : LtD P ops lt) (hrows : ∀ i j, bfBit rows m i j = true → Bf ops i j) (hws : ∀ (i : Nat) (o : Oper) (d : Nat), ops[i]? = some o → o.dst = some d → d ∈ ws)
  {Q : Exit → Act → World → Prop}
  (hq : ∀ st' a' w' μ' lam', K st' → Post μ0 h0 w0 μ lam a ws st' a' w' μ' lam' → Q .normal a' w') :
  ∀ (fuel n : Nat) (lA : List Nat) (st : St) (lR : Array Bool) (ρR : List LV) (a' : Act) (w' : World) (μ' : Ren) (lam' : List Nat) (ra : Nat → Nat), cnt lR ≤ fuel → vanyL P (AC P) ops rows m lt n lA st K →
   DInvL P μ0 h0 w0 ops lt ws μ lam a lA st lR ρR a' w' μ' lam' ra → wpAny P .any ops Q fuel lR a' w' := by
 have fin : ∀ (n : Nat) (lA : List Nat) (st : St) (lR : Array Bool) (ρR : List LV) (a' : Act) (w' : World) (μ' : Ren) (lam' : List Nat) (ra : Nat → Nat), vanyL P (AC P) ops rows m lt n lA st K →
   DInvL P μ0 h0 w0 ops lt ws μ lam a lA st lR ρR a' w' μ' lam' ra → Region.ready .any ops lR = [] → Q .normal a' w' := by
  intro n lA st lR ρR a' w' μ' lam' ra hv I hr
  obtain ⟨n, lA, st, ρR, μ', hv, I, hro, hcond⟩ := saturateL D T hws hrows n lA st ρR μ' hv I
  have hall := all_listed D I.size hr
  have hlt : ∀ a ∈ lt, a ∈ lA := by
   rcases hcond fun a ha => by
    obtain ⟨o, _, _, _, h1, _⟩ := T.alc a ha
    exact hall a (Array.getElem?_eq_some_iff.1 h1).1 with h | h
   ·exfalso
    cases hf : (readyE ops lA).filter (fun i => !lt.contains i) with
    | nil => exact h hf
    | cons k ks =>
     have hk : k ∈ (readyE ops lA).filter (fun i => !lt.contains i) := by rw [hf]; simp
     rw [List.mem_filter] at hk
     obtain ⟨g1, g2, _⟩ := readyE_mem.1 hk.1
     rcases I.sub k (hall k g1) with h | h
     ·exact g2 h
     ·simp [h] at hk
   ·exact h
  have hE : readyE ops lA = [] := by
   refine List.eq_nil_iff_forall_not_mem.2 fun i hi => ?_
   obtain ⟨g1, g2, _⟩ := readyE_mem.1 hi
   exact g2 ((I.sub i (hall i g1)).elim id (hlt i))
  have hL : readyL ops lt lA = [] := by unfold readyL; rw [hE]; rfl
  simp only [vanyL, hro, hL] at hv
  obtain ⟨_, hk⟩ := need_elim hv
  have hρ : ρR = st.ρ := by
   refine List.ext_getElem? fun t => ?_
   rcases I.view t with ⟨i, o, _, h2, h3, _⟩ | ⟨i, o, h1, h2, h3, _⟩ | h
   ·exact absurd (hall i (Array.getElem?_eq_some_iff.1 h3).1) h2
   ·exact absurd (hlt i h1) h3
   ·exact h
  refine hq st a' w' μ' lam' hk ?_
  have := I.post
  rw [hρ] at this
  exact this
 intro fuel
 induction fuel with
 | zero =>
  intro n lA st lR ρR a' w' μ' lam' ra hc hv I
  have hr : Region.ready .any ops lR = [] := by
   refine List.eq_nil_iff_forall_not_mem.2 fun i hi => ?_
   have := cnt_set (mem_ready.1 hi).1
   omega
  exact ⟨hr, fin _ _ _ _ _ _ _ _ _ _ hv I hr⟩
 | succ fuel ih =>
  intro n lA st lR ρR a' w' μ' lam' ra hc hv I
  refine ⟨fin _ _ _ _ _ _ _ _ _ _ hv I, fun i hi => ?_⟩
  obtain ⟨n, lA, st, ρR, μ', hv, I, hro, hcond⟩ := saturateL D T hws hrows n lA st ρR μ' hv I
  obtain ⟨hun, o, ho, haft⟩ := mem_ready.1 hi
  have hnl := not_lr hun
  have hisz : i < lR.size := by rw [I.size]; exact (Array.getElem?_eq_some_iff.1 ho).1
  have hbR : ∀ e ∈ bindsOf o, Lr lR e := by
   intro e he
   simp only [bindsOf, List.mem_map, List.mem_filter] at he
   obtain ⟨x, ⟨hx, hb⟩, rfl⟩ := he
   exact haft x (by simpa using hx) hb
  have hbfR : ∀ j, Bf ops i j → Lr lR j := fun j hb => hb.closed (S := Lr lR) I.clR fun o2 ho2 e he => by
   rw [ho] at ho2; cases ho2; exact hbR e he
  have hcnt : cnt (lR.setIfInBounds i true) ≤ fuel := by have := cnt_set hun; omega
  have clR' : ∀ (k : Nat) (o' : Oper), ops[k]? = some o' → Lr (lR.setIfInBounds i true) k → ∀ e ∈ bindsOf o', Lr (lR.setIfInBounds i true) e := by
   intro k o' ho' hk e he
   rw [lr_set] at hk ⊢
   rcases hk with ⟨rfl, _⟩ | hk
   ·rw [ho] at ho'; cases ho'; exact .inr (hbR e he)
   ·exact .inr (I.clR k o' ho' hk e he)
  have hlam : lam' = [] := by
   have := I.post.rel
   simp only [I.emp] at this
   exact this.lam_nil
  subst hlam
  have Rc : Rel μ0 h0 w0 μ' [] [] st.h w' := by have := I.post.rel; simp only [I.emp] at this; exact this
  have advStep : ∀ {h2 : Heap} {μ2 : Ren} {w2 : World} {v : Value} {lA' : List Nat}, Evo μ' st.h w' μ2 h2 w2 → (∀ k, k ∈ lA → k ∈ lA') → i ∉ lt →
    ∀ (k : Nat) (o' : Oper) (t d : Nat) (zs : List AV), k ∈ lt → Lr (lR.setIfInBounds i true) k → k ∉ lA' → ops[k]? = some o' → o'.op = .alloc t → o'.dst = some d → zcells P t = some zs →
     (d < (a'.put o.dst v).tmps.size → (a'.put o.dst v).tmps.getD d undef = .pointer (some ⟨ra k, 0, none⟩)) ∧ Adv w0 μ2 h2 w2 zs (ra k) := by
   intro h2 μ2 w2 v lA' ev hsub hil k o' t d zs h1 hk h3 h4 h5 h6 h7
   have hki : k ≠ i := by rintro rfl; exact hil h1
   have hkR : Lr lR k := by
    rcases lr_set.1 hk with ⟨rfl, _⟩ | h
    ·exact absurd rfl hki
    ·exact h
   obtain ⟨g1, g2⟩ := I.adv k o' t d zs h1 hkR (fun hm => h3 (hsub k hm)) h4 h5 h6 h7
   refine ⟨fun hlt => ?_, g2.step ev⟩
   rw [put_keep fun hd => D.dst i k o o' d ho h4 (Ne.symm hki) h6 hd]
   exact g1 (by rw [put_size] at hlt; exact hlt)
  have lrBack : i ∉ lt → ∀ k, k ∈ lt → Lr (lR.setIfInBounds i true) k → Lr lR k := by
   intro hil k h1 hk
   rcases lr_set.1 hk with ⟨rfl, _⟩ | h
   ·exact absurd h1 hil
   ·exact h
  by_cases hiA : i ∈ lA
  ·
   obtain ⟨o2, ho2, hcls, lv, hvg, hset⟩ := I.owed i hiA hnl
   rw [ho] at ho2; cases ho2
   have hil : i ∉ lt := fun hl => hcls (T.cls0 hl ho)
   have hcong : ∀ t ∈ o.looksAt ops, ρR[t]? = st.ρ[t]? := by
    intro t ht
    rcases I.view t with ⟨k, o', h1, h2, h3, h4⟩ | ⟨k, o', h1, h2, h3, h4, h5⟩ | h
    ·exfalso
     by_cases hki : k = i
     ·subst hki
      rw [ho] at h3; cases h3
      exact D.self k o t ho h4 hcls ht
     ·rcases D.look i k o o' t ho h3 (Ne.symm hki) h4 ht with hbf | ⟨_, hcc⟩
      ·exact h2 (hbfR k hbf)
      ·obtain ⟨o3, ho3, hc3, _⟩ := I.owed k h1 h2
       rw [h3] at ho3; cases ho3
       exact hcc.elim hcls hc3
    ·exfalso
     have hki : k ≠ i := by rintro rfl; exact hil h1
     obtain ⟨o3, _, _, _, g1, _, _, _, g5, _⟩ := T.alc k h1
     rcases D.look i k o o' t ho h4 (Ne.symm hki) h5 ht with hbf | ⟨hbf, _⟩
     ·exact h3 (hbf.closed (S := (· ∈ lA)) I.clA fun o2 ho2 e he => I.clA i o2 ho2 hiA e he)
     ·exact Bf.none g1 g5 hbf
    ·exact h
   rw [← vg_congr hcong, I.emp] at hvg
   refine vg_wp ho Rc.here I.post.env hvg ?_
   intro lv' L' h' μ2 lam2 v w2 hsame R2 hle hlle hrel
   obtain ⟨rfl, rfl, rfl⟩ := hsame
   have hl2 := R2.lam_nil
   subst hl2
   have E2 := (I.post.env.mono hle hlle).put (d := o.dst) hrel
   have R3 : Rel μ0 h0 w0 μ2 [] [] st.h w2 := ⟨Rc.evo.trans R2.evo, R2.heap, LRel.nil⟩
   have p1 : Post μ0 h0 w0 μ' [] a' ws ⟨match o.dst with | some d => ρR.set d lv' | none => ρR, [], st.h⟩ (a'.put o.dst v) w2 μ2 [] :=
    ⟨R3, E2, hle, hlle, put_defers, put_size, fun t ht => put_keep fun hd => ht (hws i o t ho hd)⟩
   refine ih (n + 1) lA st _ (match o.dst with | some d => ρR.set d lv' | none => ρR) _ _ μ2 [] ra hcnt hv {
    size := by simpa using I.size
    sub := by
     intro k hk
     rcases lr_set.1 hk with ⟨rfl, _⟩ | hk
     ·exact .inl hiA
     ·exact I.sub k hk
    clA := I.clA
    clR := clR'
    owed := fun k hk hn => I.owed k hk fun h => hn (lr_set.2 (.inr h))
    len := by split <;> simp [I.len]
    view := by
     intro t
     by_cases ht : o.dst = some t
     ·refine .inr (.inr ?_)
      rw [ht]
      have := hset t ht
      simp only
      rw [← this, List.getElem?_set, List.getElem?_set]
      simp [I.len]
     ·rcases I.view t with ⟨k, o', h1, h2, h3, h4⟩ | ⟨k, o', h1, h2, h3, h4, h5⟩ | h
      ·refine .inl ⟨k, o', h1, fun hl => ?_, h3, h4⟩
       rcases lr_set.1 hl with ⟨rfl, _⟩ | hl
       ·rw [ho] at h3; cases h3; exact ht h4
       ·exact h2 hl
      ·exact .inr (.inl ⟨k, o', h1, lr_set.2 (.inr h2), h3, h4, h5⟩)
      ·refine .inr (.inr ?_)
       rw [← h]
       split
       ·rename_i d hd
        rw [List.getElem?_set, if_neg]
        intro h; subst h; exact ht hd
       ·rfl
    emp := I.emp
    adv := advStep R2.evo (fun _ h => h) hil
    dist := fun j k h1 h2 h3 h4 h5 h6 => I.dist j k h1 h2 (lrBack hil j h1 h3) (lrBack hil k h2 h4) h5 h6
    post := by
     have := I.post.trans (ws := ws) p1 (fun _ h => h) (fun _ h => h)
     rw [I.emp]; exact this }
  ·by_cases hil : i ∈ lt
   ·
    obtain ⟨o2, t, d, zs, ho2, hop, hg, hd, hb, hz, hone, hbt⟩ := T.alc i hil
    rw [ho] at ho2; cases ho2
    have hvg : vg P (fun _ => true) (AC P) ops o ρR [] st.h (fun lv L h => lv = .loc 0 0 ∧ L = [zs] ∧ h = st.h) := by
     unfold vg actsAt
     simp only [hg, vif]
     unfold vop
     simp only [hop, hz, hd, hbt, vAlloc]
     exact need_mk hone ⟨rfl, rfl, rfl⟩
    refine vg_wp ho Rc.here I.post.env hvg ?_
    intro lv' L' h' μ2 lam2 v w2 hk R2 hle hlle hrel
    obtain ⟨rfl, rfl, rfl⟩ := hk
    have hμ : μ2 = μ' := by
     have l1 := R2.heap.len
     have l2 := Rc.heap.len
     refine List.ext_getElem? fun b => ?_
     rcases Nat.lt_or_ge b μ'.length with h | h
     ·rw [List.getElem?_eq_getElem h]
      exact hle b _ (List.getElem?_eq_getElem h)
     ·rw [List.getElem?_eq_none h, List.getElem?_eq_none (by omega)]
    subst hμ
    obtain ⟨r, hr, rfl⟩ := hrel
    obtain ⟨C, ty, fz, g1, g2, rfl, _⟩ := R2.locs.blk 0 zs r rfl hr
    have hnew := R2.locs.new 0 r hr
    have R3 : Rel μ0 h0 w0 μ2 [] [] st.h w2 := ⟨Rc.evo.trans R2.evo, R2.heap, LRel.nil⟩
    have E2 : EnvRel μ2 [] (ρR.set d .top) (a'.put o.dst (.pointer (some ⟨r, 0, none⟩))).tmps := by
     have := I.post.env.put (d := o.dst) (lv := .top) (v := .pointer (some ⟨r, 0, none⟩)) trivial
     rw [hd] at this ⊢
     exact this
    have p1 : Post μ0 h0 w0 μ2 [] a' ws ⟨ρR.set d .top, [], st.h⟩ (a'.put o.dst (.pointer (some ⟨r, 0, none⟩))) w2 μ2 [] :=
     ⟨R3, E2, .refl _, lamLe.refl _, put_defers, put_size, fun t ht => put_keep fun hd => ht (hws i o t ho hd)⟩
    have hsz := Rc.evo.size
    refine ih (n + 1) lA st _ (ρR.set d .top) _ _ μ2 [] (fun k => if k = i then r else ra k) hcnt hv {
     size := by simpa using I.size
     sub := by
      intro k hk
      rcases lr_set.1 hk with ⟨rfl, _⟩ | hk
      ·exact .inr hil
      ·exact I.sub k hk
     clA := I.clA
     clR := clR'
     owed := fun k hk hn => I.owed k hk fun h => hn (lr_set.2 (.inr h))
     len := by simp [I.len]
     view := by
      intro x
      by_cases hx : d = x
      ·subst hx
       exact .inr (.inl ⟨i, o, hil, lr_set.2 (.inl ⟨rfl, hisz⟩), hiA, ho, hd⟩)
      ·rcases I.view x with ⟨k, o', h1, h2, h3, h4⟩ | ⟨k, o', h1, h2, h3, h4, h5⟩ | h
       ·refine .inl ⟨k, o', h1, fun hl => ?_, h3, h4⟩
        rcases lr_set.1 hl with ⟨rfl, _⟩ | hl
        ·exact hiA h1
        ·exact h2 hl
       ·exact .inr (.inl ⟨k, o', h1, lr_set.2 (.inr h2), h3, h4, h5⟩)
       ·refine .inr (.inr ?_)
        rw [List.getElem?_set, if_neg hx]
        exact h
     emp := I.emp
     adv := by
      intro k o' t' d' zs' h1 hk h3 h4 h5 h6 h7
      by_cases hki : k = i
      ·subst hki
       rw [ho] at h4; cases h4
       rw [hd] at h6; cases h6
       rw [hop] at h5; cases h5
       rw [hz] at h7; cases h7
       refine ⟨fun hlt => ?_, ?_⟩
       ·rw [put_size] at hlt
        simp [Act.put, hd, hlt]
       ·simp only [if_true]
        exact ⟨Nat.le_trans hsz hnew.1, hnew.2, fun b B e hb2 hlv he => R2.locs.sep 0 r b B e hr hb2 hlv he, ⟨C, ty, g1, g2⟩⟩
      ·have hkR : Lr lR k := by
        rcases lr_set.1 hk with ⟨rfl, _⟩ | h
        ·exact absurd rfl hki
        ·exact h
       obtain ⟨q1, q2⟩ := I.adv k o' t' d' zs' h1 hkR h3 h4 h5 h6 h7
       simp only [if_neg hki]
       refine ⟨fun hlt => ?_, q2.step R2.evo⟩
       rw [put_keep fun hd => D.dst i k o o' d' ho h4 (Ne.symm hki) h6 hd]
       exact q1 (by rw [put_size] at hlt; exact hlt)
     dist := by
      have old : ∀ k, k ∈ lt → Lr (lR.setIfInBounds i true) k → k ∉ lA → k ≠ i → ra k < w'.heap.size := by
       intro k h1 hk h3 hki
       have hkR : Lr lR k := by
        rcases lr_set.1 hk with ⟨rfl, _⟩ | h
        ·exact absurd rfl hki
        ·exact h
       obtain ⟨o', t', d', zs', k1, k2, _, k4, _, k6, _⟩ := T.alc k h1
       exact (I.adv k o' t' d' zs' h1 hkR h3 k1 k2 k4 k6).2.lt
      intro j k h1 h2 h3 h4 h5 h6 hne
      by_cases hji : j = i <;> by_cases hki : k = i
      ·exact absurd (hji.trans hki.symm) hne
      ·simp only [if_pos hji, if_neg hki]
       have := old k h2 h4 h6 hki
       omega
      ·simp only [if_neg hji, if_pos hki]
       have := old j h1 h3 h5 hji
       omega
      ·simp only [if_neg hji, if_neg hki]
       refine I.dist j k h1 h2 ?_ ?_ h5 h6 hne
       ·rcases lr_set.1 h3 with ⟨rfl, _⟩ | h
        ·exact absurd rfl hji
        ·exact h
       ·rcases lr_set.1 h4 with ⟨rfl, _⟩ | h
        ·exact absurd rfl hki
        ·exact h
     post := by
      have := I.post.trans (ws := ws) p1 (fun _ h => h) (fun _ h => h)
      rw [I.emp]; exact this }
   ·
    have inE : (∀ e ∈ bindsOf o, e ∈ lA) → i ∈ (readyE ops lA).filter fun i => !lt.contains i := fun hb => by
     rw [List.mem_filter]
     exact ⟨readyE_mem.2 ⟨by rw [← I.size]; exact hisz, hiA, o, ho, hb⟩, by simpa using hil⟩
    have hfi : i ∈ (readyE ops lA).filter fun i => !lt.contains i := by
     by_cases hx : ∃ e ∈ bindsOf o, e ∈ lt
     ·obtain ⟨e, he, hel⟩ := hx
      obtain ⟨t1, t2⟩ := T.all i o e ho he hel
      rcases hcond fun k hk => hbfR k (t1 k hk) with hne | hlt
      ·cases hf : (readyE ops lA).filter (fun i => !lt.contains i) with
       | nil => exact absurd hf hne
       | cons k ks =>
        have hk : k ∈ (readyE ops lA).filter (fun i => !lt.contains i) := by rw [hf]; simp
        rw [← hf]
        have hk2 := hk
        rw [List.mem_filter] at hk
        obtain ⟨g1, g2, ok, g3, g4⟩ := readyE_mem.1 hk.1
        have hkl : k ∉ lt := by intro h; simp [h] at hk
        by_cases hki : k = i
        ·subst hki; exact hk2
        ·exfalso
         rcases t2 k ok g3 hki hkl (readyRO_none hro g3 g2 g4) with hb | hb
         ·exact (I.sub k (hbfR k hb)).elim g2 hkl
         ·exact hiA (hb.closed (S := (· ∈ lA)) I.clA fun o2 ho2 e he => by rw [g3] at ho2; cases ho2; exact g4 e he)
      ·exact inE fun e he => (I.sub e (hbR e he)).elim id (hlt e)
     ·exact inE fun e he => (I.sub e (hbR e he)).elim id fun h => absurd ⟨e, he, h⟩ hx
    have hbA : ∀ e ∈ bindsOf o, e ∈ lA := by
     rw [List.mem_filter] at hfi
     obtain ⟨_, _, o2, ho2, hb⟩ := readyE_mem.1 hfi.1
     rw [ho] at ho2; cases ho2
     exact hb
    have hfL : i ∈ readyL ops lt lA := by
     unfold readyL
     cases hf : (readyE ops lA).filter (fun i => !lt.contains i) with
     | nil => rw [hf] at hfi; cases hfi
     | cons k ks => rw [hf] at hfi; exact hfi
    simp only [vanyL, hro] at hv
    have hvi : vg P noLoc (AC P) ops o st.ρ st.L st.h fun v L h => need L.isEmpty (rechks P noLoc (AC P) ops (st.put o.dst v L h) (vanyL P (AC P) ops rows m lt n (i :: lA) (st.put o.dst v L h) K) (toCheck P ops rows m lA i)) := by
     cases hE : readyL ops lt lA with
     | nil => rw [hE] at hfL; simp at hfL
     | cons j js =>
      rw [hE] at hv hfL
      have := vall_mem hv i hfL
      simp only [ho] at this
      exact vg_of this
    have hcong : ∀ t ∈ o.looksAt ops, ρR[t]? = st.ρ[t]? := by
     intro t ht
     rcases I.view t with ⟨k, o', h1, h2, h3, h4⟩ | ⟨k, o', h1, h2, h3, h4, h5⟩ | h
     ·exfalso
      have hki : k ≠ i := by rintro rfl; exact hiA h1
      rcases D.look i k o o' t ho h3 (Ne.symm hki) h4 ht with hbf | ⟨hbf, _⟩
      ·exact h2 (hbfR k hbf)
      ·exact hiA (hbf.closed (S := (· ∈ lA)) I.clA fun o2 ho2 e he => I.clA k o2 ho2 h1 e he)
     ·exfalso
      have hki : k ≠ i := by rintro rfl; exact hil h1
      obtain ⟨o3, _, _, _, g1, _, _, _, g5, _⟩ := T.alc k h1
      rcases D.look i k o o' t ho h4 (Ne.symm hki) h5 ht with hbf | ⟨hbf, _⟩
      ·exact h3 (hbf.closed (S := (· ∈ lA)) I.clA fun o2 ho2 e he => by rw [ho] at ho2; cases ho2; exact hbA e he)
      ·exact Bf.none g1 g5 hbf
     ·exact h
    rw [← vg_congr hcong, I.emp] at hvi
    refine vg_wp ho Rc.here I.post.env hvi ?_
    intro lv L' h' μ2 lam2 v w2 hk R2 hle hlle hrel
    obtain ⟨hL0, hk⟩ := need_elim hk
    have hL0 : L' = [] := by simpa using hL0
    subst hL0
    have hl2 := R2.lam_nil
    subst hl2
    obtain ⟨hk, hre⟩ := rechks_elim hk
    have E2 := (I.post.env.mono hle hlle).put (d := o.dst) hrel
    have R3 : Rel μ0 h0 w0 μ2 [] [] h' w2 := ⟨Rc.evo.trans R2.evo, R2.heap, LRel.nil⟩
    have p1 : Post μ0 h0 w0 μ' [] a' ws ⟨match o.dst with | some d => ρR.set d lv | none => ρR, [], h'⟩ (a'.put o.dst v) w2 μ2 [] :=
     ⟨R3, E2, hle, hlle, put_defers, put_size, fun t ht => put_keep fun hd => ht (hws i o t ho hd)⟩
    refine ih n (i :: lA) (st.put o.dst lv [] h') _ (match o.dst with | some d => ρR.set d lv | none => ρR) _ _ μ2 [] ra hcnt hk {
     size := by simpa using I.size
     sub := by
      intro k hk
      rcases lr_set.1 hk with ⟨rfl, _⟩ | hk
      ·exact .inl (by simp)
      ·exact (I.sub k hk).imp (List.mem_cons_of_mem _) id
     clA := by
      intro k o' ho' hk' e he
      rcases List.mem_cons.1 hk' with rfl | hk'
      ·rw [ho] at ho'; cases ho'
       exact List.mem_cons_of_mem _ (hbA e he)
      ·exact List.mem_cons_of_mem _ (I.clA k o' ho' hk' e he)
     clR := clR'
     owed := by
      intro k hk' hn
      have hki : k ≠ i := by rintro rfl; exact hn (lr_set.2 (.inl ⟨rfl, hisz⟩))
      have hkA : k ∈ lA := (List.mem_cons.1 hk').resolve_left hki
      have hkR : ¬ Lr lR k := fun h => hn (lr_set.2 (.inr h))
      exact owed_step D ho hiA I.clA hbfR (fun k hk => hbfR k (hrows _ _ hk)) hre hkA hkR (I.owed k hkA hkR)
     len := by
      simp only [St.put]
      cases o.dst <;> simp [I.len]
     view := by
      intro t
      rcases I.view t with ⟨k, o', h1, h2, h3, h4⟩ | ⟨k, o', h1, h2, h3, h4, h5⟩ | h
      ·refine .inl ⟨k, o', List.mem_cons_of_mem _ h1, fun hl => ?_, h3, h4⟩
       rcases lr_set.1 hl with ⟨rfl, _⟩ | hl
       ·exact hiA h1
       ·exact h2 hl
      ·refine .inr (.inl ⟨k, o', h1, lr_set.2 (.inr h2), fun hm => ?_, h4, h5⟩)
       rcases List.mem_cons.1 hm with rfl | hm
       ·exact hil h1
       ·exact h3 hm
      ·refine .inr (.inr ?_)
       simp only [St.put]
       split
       ·rename_i d hd
        simp only [hd]
        rw [List.getElem?_set, List.getElem?_set, h, I.len]
       ·rename_i hd
        simp only [hd]
        exact h
     emp := rfl
     adv := advStep R2.evo (fun k h => List.mem_cons_of_mem _ h) hil
     dist := fun j k h1 h2 h3 h4 h5 h6 => I.dist j k h1 h2 (lrBack hil j h1 h3) (lrBack hil k h2 h4) (fun hm => h5 (List.mem_cons_of_mem _ hm)) fun hm => h6 (List.mem_cons_of_mem _ hm)
     post := I.post.trans (ws := ws) p1 (fun _ h => h) (fun _ h => h) }
theorem vdrawL_ok : DrawOK P (vdrawL P (AC P)) := by
 intro μ0 h0 w0 id ops st K μ lam a w hk R E
 unfold vdrawL at hk
 obtain ⟨rows, m, he, hrows⟩ := bfRows_ok (ops := ops) (k := fun rows m => need (okDraw P ops rows m) (need st.L.isEmpty (vanyL P (AC P) ops rows m (lateOf P ops rows m) (ops.size + 1) [] st K))) ops.toList 0 [] rfl rfl (by
  intro i j h; simp [bfBit, rowAt] at h)
 rw [he] at hk
 obtain ⟨hd, hk⟩ := need_elim hk
 obtain ⟨hL, hk⟩ := need_elim hk
 have hL : st.L = [] := by simpa using hL
 have D := okD_of hrows hd
 have T : LtD P ops (lateOf P ops rows m) := ltD_of hrows
 refine wp_region_any D.mixed ?_
 have Rd : Rel μ0 h0 w0 μ lam st.L st.h { w with drawn := w.drawn + 1 } := R.drawn rfl rfl rfl rfl
 refine draw_mainL (μ := μ) (lam := lam) (a := a) (ws := writes (.region id ops true)) D T hrows (region_ws id true) (fun st' a' w' μ' lam' hK p => ⟨st', μ', lam', ⟨rfl, hK⟩, p⟩) ops.size (ops.size + 1) [] st _ st.ρ a _ μ lam (fun _ => 0) ?_ hk ?_
 ·have : ∀ n, ((List.replicate n false).filter (fun b => !b)).length = n := by intro n; simp
  simp [cnt]
 ·have nl : ∀ i, ¬ Lr (Array.replicate ops.size false) i := by
   intro i h
   unfold Lr at h
   by_cases hlt : i < ops.size
   ·simp [hlt] at h
   ·simp [hlt] at h
  exact {
   size := by simp
   sub := fun i h => absurd h (nl i)
   clA := fun i o _ h => absurd h (by simp)
   clR := fun i o _ h => absurd h (nl i)
   owed := fun i h => absurd h (by simp)
   len := rfl
   view := fun t => .inr (.inr rfl)
   emp := hL
   adv := fun i _ _ _ _ _ h => absurd h (nl i)
   dist := fun i _ _ _ h => absurd h (nl i)
   post := Post.start Rd E _ }
end
theorem AC_of_vfun {P : Program} {H : Hints} {draw : DrawH} (hdraw : DrawOK P draw) {f : FuncId} {args : List AV} {h : Heap} {Q : AV → Heap → Prop} (hn : notCount P f = true) (hk : vfun P H (AC P) draw f args h Q) : AC P f args h Q := by
 unfold vfun at hk
 unfold notCount at hn
 cases hf : P.funcs[f]? with
 | none => simp only [hf] at hk
 | some fn =>
  simp only [hf] at hk hn
  cases hb : fn.body with
  | none => simp only [hb] at hk
  | some c =>
   simp only [hb] at hk
   have hn : (fn.name == "runtime.NumGoroutine") = false ∧ Nat.beq f 1000000000 = false := by simpa only [Bool.and_eq_true, Bool.not_eq_true'] using hn
   exact AC_of_code hdraw hf hb hn.1 hn.2 hk
abbrev vdrawZ (P : Program) (lz : Bool) (call : CallH) : DrawH := match lz with | true => vdrawL P call | false => vdraw P noLoc call
abbrev EC := T LV → EH → Bool
mutual
def avEq : AV → AV → Bool
 | .int k a, .int k' b => decide (k = k') && a == b
 | .bool a, .bool b => a == b
 | .str a, .str b => a == b
 | .ptr none, .ptr none => true
 | .ptr (some p), .ptr (some q) => p.b == q.b && p.o == q.o
 | .sl none, .sl none => true
 | .sl (some s), .sl (some t) => s.b == t.b && s.o == t.o && s.len == t.len && s.cap == t.cap && s.opn == t.opn
 | .map none, .map none => true
 | .map (some a), .map (some b) => a == b
 | .nilfunc, .nilfunc => true
 | .niliface, .niliface => true
 | .iface t v, .iface u w => t == u && avEq v w
 | .agg a, .agg b => avEqL a b
 | .tup a, .tup b => avEqL a b
 | _, _ => false
def avEqL : List AV → List AV → Bool
 | [], [] => true
 | x :: xs, y :: ys => avEq x y && avEqL xs ys
 | _, _ => false
end
mutual
theorem avEq_ok : ∀ (a b : AV), avEq a b = true → a = b
 | .int k a, b, h => by cases b <;> simp [avEq] at h; obtain ⟨h1, h2⟩ := h; subst h1; subst h2; rfl
 | .bool a, b, h => by cases b <;> simp [avEq] at h; subst h; rfl
 | .str a, b, h => by cases b <;> simp [avEq] at h; subst h; rfl
 | .ptr none, b, h => by
  cases b
  case ptr p => cases p with
   | none => rfl
   | some p => simp [avEq] at h
  all_goals simp [avEq] at h
 | .ptr (some p), b, h => by
  cases b
  case ptr q => cases q with
   | none => simp [avEq] at h
   | some q => cases p; cases q; simp [avEq] at h; simp_all
  all_goals simp [avEq] at h
 | .sl none, b, h => by
  cases b
  case sl p => cases p with
   | none => rfl
   | some p => simp [avEq] at h
  all_goals simp [avEq] at h
 | .sl (some p), b, h => by
  cases b
  case sl q => cases q with
   | none => simp [avEq] at h
   | some q => cases p; cases q; simp [avEq] at h; simp_all
  all_goals simp [avEq] at h
 | .map none, b, h => by
  cases b
  case map p => cases p with
   | none => rfl
   | some p => simp [avEq] at h
  all_goals simp [avEq] at h
 | .map (some p), b, h => by
  cases b
  case map q => cases q with
   | none => simp [avEq] at h
   | some q => simp [avEq] at h; subst h; rfl
  all_goals simp [avEq] at h
 | .func _ _ _, b, h => by cases b <;> simp [avEq] at h
 | .nilfunc, b, h => by cases b <;> simp [avEq] at h; rfl
 | .niliface, b, h => by cases b <;> simp [avEq] at h; rfl
 | .iface t v, b, h => by
  cases b <;> simp [avEq] at h
  obtain ⟨h1, h2⟩ := h
  rw [h1, avEq_ok _ _ h2]
 | .agg a, b, h => by
  cases b <;> simp [avEq] at h
  rw [avEqL_ok _ _ h]
 | .tup a, b, h => by
  cases b <;> simp [avEq] at h
  rw [avEqL_ok _ _ h]
theorem avEqL_ok : ∀ (a b : List AV), avEqL a b = true → a = b
 | [], b, h => by cases b <;> simp [avEqL] at h; rfl
 | x :: xs, b, h => by
  cases b <;> simp [avEqL] at h
  rw [avEq_ok _ _ h.1, avEqL_ok _ _ h.2]
end
def lvEq : LV → LV → Bool
 | .val a, .val b => avEq a b
 | .top, .top => true
 | _, _ => false
theorem lvEq_ok {a b : LV} (h : lvEq a b = true) : a = b := by
 cases a <;> cases b <;> simp [lvEq] at h
 ·rw [avEq_ok _ _ h]
 ·rfl
def eput (d : Option Nat) (v : LV) (ρ : T LV) (h : EH) (k : EC) : Bool := match d with | some d => ρ.put d v fun ρ' => k ρ' h | none => k ρ h
def eGuardVal (ops : Array Oper) (ρ : T LV) (j : Nat) : Option Bool :=
 match (ops[j]?).bind (·.dst) with
 | some d => match ρ.get d with | some (.val (.bool b)) => some b | _ => none
 | none => none
def eGuardOff (ops : Array Oper) (ρ : T LV) (j : Nat) : Bool :=
 match (ops[j]?).bind (·.dst) with
 | some d => match ρ.get d with | some (.val (.tup [])) => true | _ => false
 | none => false
section
variable (P : Program) (call : ECall)
def eside (o : Oper) (act : Bool) (ρ : T LV) (h : EH) (k : EC) : Bool :=
 match act with
 | true => eop P call o ρ h fun v h' => eput o.dst v ρ h' k
 | false => eput o.dst .und ρ h k
def eguarded (ops : Array Oper) (o : Oper) (ρ : T LV) (h : EH) (k : EC) : Bool :=
 match o.guard with
 | none => eop P call o ρ h fun v h' => eput o.dst v ρ h' k
 | some (j, want) =>
  match eGuardOff ops ρ j with
  | true => eput o.dst .und ρ h k
  | false => match eGuardVal ops ρ j with
   | none => false
   | some true => eside P call o want ρ h k
   | some false => eside P call o (!want) ρ h k
def eops (ops : Array Oper) : List Nat → T LV → EH → EC → Bool
 | [], ρ, h, k => k ρ h
 | i :: is, ρ, h, k => match ops[i]? with
  | none => false
  | some o => eguarded P call ops o ρ h fun ρ' h' => eops ops is ρ' h' k
def eall : List Nat → (Nat → Bool) → Bool
 | [], _ => true
 | [j], f => f j
 | j :: js, f => f j && eall js f
def eSameK (o : Oper) (ρ : T LV) : EK := fun lv _ => match o.dst with | some d => (match ρ.get d with | some v => lvEq lv v | none => false) | none => true
def erechk1 (ops : Array Oper) (i : Nat) (ρ : T LV) (h : EH) : Bool :=
 match ops[i]? with
 | some o =>
  (match o.guard with
  | none => eop P call o ρ h (eSameK o ρ)
  | some (j, want) =>
   match eGuardOff ops ρ j with
   | true => eSameK o ρ .und h
   | false => match eGuardVal ops ρ j with
    | none => false
    | some b => match b == want with | true => eop P call o ρ h (eSameK o ρ) | false => eSameK o ρ .und h)
 | none => false
def erechks (ops : Array Oper) (ρ : T LV) (h : EH) (a : Bool) : List Nat → Bool
 | [] => a
 | i :: is => erechk1 P call ops i ρ h && erechks ops ρ h a is
def readyZ (ops : Array Oper) (lt : Option (List Nat)) (listed : List Nat) : List Nat := match lt with | some lt => readyL ops lt listed | none => readyE ops listed
def eany (ops : Array Oper) (rows : List Nat) (m : Nat) (lt : Option (List Nat)) : Nat → List Nat → T LV → EH → EC → Bool
 | 0, _, _, _, _ => false
 | n + 1, listed, ρ, h, k =>
  match readyRO P ops listed with
  | some i => (match ops[i]? with
   | some o => eguarded P call ops o ρ h fun ρ' h' => eany ops rows m lt n (i :: listed) ρ' h' k
   | none => false)
  | none => match readyZ ops lt listed with
   | [] => (List.range ops.size).all listed.contains && k ρ h
   | j :: js => eall (j :: js) fun j => match ops[j]? with
    | some o => eguarded P call ops o ρ h fun ρ' h' => erechks P call ops ρ' h' (eany ops rows m lt n (j :: listed) ρ' h' k) (toCheck P ops rows m listed j)
    | none => false
end
def rowsOf (ops : Array Oper) : List Nat × Nat := bfRows ops.toList 0 [] Prod.mk
theorem bfRows_pair {α : Type} (k : List Nat → Nat → α) : ∀ (os : List Oper) (n : Nat) (rows : List Nat), bfRows os n rows k = (fun p => k p.1 p.2) (bfRows os n rows Prod.mk)
 | [], n, rows => rfl
 | o :: os, n, rows => by simp only [bfRows, forceN_eq, bfRows_pair k os]
def lateAt (P : Program) (lz : Bool) (ops : Array Oper) : Option (List Nat) := match lz with | true => some (lateOf P ops (rowsOf ops).1 (rowsOf ops).2) | false => none
def edraw (P : Program) (lz : Bool) (call : ECall) (ops : Array Oper) (ρ : T LV) (h : EH) (k : EC) : Bool :=
 okDraw P ops (rowsOf ops).1 (rowsOf ops).2 && eany P call ops (rowsOf ops).1 (rowsOf ops).2 (lateAt P lz ops) (ops.size + 1) [] ρ h k
def eSlots (ρ : T LV) : List Nat → (List AV → Bool) → Bool
 | [], k => k []
 | s :: ss, k => match ρ.get s with | some (.val v) => eSlots ρ ss fun l => k (v :: l) | _ => false
def eTop : T LV → List Nat → (T LV → Bool) → Bool
 | ρ, [], k => k ρ
 | ρ, t :: ts, k => ρ.put t .top fun ρ' => eTop ρ' ts k
def ePutSlots : T LV → List Nat → List AV → (T LV → Bool) → Bool
 | ρ, s :: ss, v :: vs, k => ρ.put s (.val v) fun ρ' => ePutSlots ρ' ss vs k
 | ρ, [], [], k => k ρ
 | _, _, _, _ => false
def eloop (body : T LV → EH → (Exit → T LV → EH → Bool) → Bool) (slots : List Nat) (ρ0 : T LV) (xs0 : List AV) (k : Exit → T LV → EH → Bool) : Nat → List AV → EH → Bool
 | 0, _, _ => false
 | n + 1, xs, h => ePutSlots ρ0 slots xs fun ρ => body ρ h fun e ρ' h' => match e with
  | .normal => eSlots ρ' slots fun xs' => sameShapes xs0 xs' && eloop body slots ρ0 xs0 k n xs' h'
  | e => k e ρ' h'
def ecode (P : Program) (lz : Bool) (slots : Nat → List Nat) (call : ECall) : Code → Nat → T LV → EH → (Exit → T LV → EH → Bool) → Bool
 | .skip, _, ρ, h, k => k .normal ρ h
 | .region _ ops d, _, ρ, h, k => match d with
  | false => eops P call ops (List.range ops.size) ρ h (k .normal)
  | true => edraw P lz call ops ρ h (k .normal)
 | .seq a b, cur, ρ, h, k => ecode P lz slots call a cur ρ h fun e ρ' h' => match e with
  | .normal => ecode P lz slots call b cur ρ' h' k
  | e => k e ρ' h'
 | .cond c a b, cur, ρ, h, k => match eev ρ c with
  | .val (.bool true) => ecode P lz slots call a cur ρ h k
  | .val (.bool false) => ecode P lz slots call b cur ρ h k
  | _ => false
 | .block id body, _, ρ, h, k => ecode P lz slots call body id ρ h fun e ρ' h' => match e with
  | .exit i => (match i == id with | true => k .normal ρ' h' | false => k (.exit i) ρ' h')
  | e => k e ρ' h'
 | .loop body, cur, ρ, h, k =>
  eSlots ρ (slots cur) fun xs0 => sameShapes xs0 xs0 && eTop ρ (writes body) fun ρ0 =>
   eloop (fun ρ h k => ecode P lz slots call body cur ρ h k) (slots cur) ρ0 xs0 k 1000000 xs0 h
 | .exit id, _, ρ, h, k => k (.exit id) ρ h
 | .ret, _, ρ, h, k => k .ret ρ h
 | .scope body, cur, ρ, h, k => ecode P lz slots call body cur ρ h fun e ρ' h' => match e with
  | .goto _ => false
  | e => k e ρ' h'
 | .label _, _, ρ, h, k => k .normal ρ h
 | _, _, _, _, _ => false
def eresults (P : Program) (ρ : T LV) (h : EH) : List ResultVar → (List AV → Bool) → Bool
 | [], k => k []
 | .tmp t :: rs, k => (match ρ.get t with | some (.val v) => eresults P ρ h rs fun l => k (v :: l) | _ => false)
 | .cell a t :: rs, k => (match tz P t, ρ.get a with
  | some z, some (.val (.ptr (some p))) => okTy P t z && eLoad z h p.b p.o fun v => eresults P ρ h rs fun l => k (v :: l)
  | _, _ => false)
def cellT (n i : Nat) : Option LV := match Nat.blt i n with | true => some .top | false => none
def q1T (n a : Nat) : Q16 (Option LV) := ⟨cellT n a, cellT n (Nat.add a 1), cellT n (Nat.add a 2), cellT n (Nat.add a 3), cellT n (Nat.add a 4), cellT n (Nat.add a 5), cellT n (Nat.add a 6), cellT n (Nat.add a 7), cellT n (Nat.add a 8), cellT n (Nat.add a 9), cellT n (Nat.add a 10), cellT n (Nat.add a 11), cellT n (Nat.add a 12), cellT n (Nat.add a 13), cellT n (Nat.add a 14), cellT n (Nat.add a 15)⟩
def q2T (n a : Nat) : Q16 (Q16 (Option LV)) := ⟨q1T n a, q1T n (Nat.add a 16), q1T n (Nat.add a 32), q1T n (Nat.add a 48), q1T n (Nat.add a 64), q1T n (Nat.add a 80), q1T n (Nat.add a 96), q1T n (Nat.add a 112), q1T n (Nat.add a 128), q1T n (Nat.add a 144), q1T n (Nat.add a 160), q1T n (Nat.add a 176), q1T n (Nat.add a 192), q1T n (Nat.add a 208), q1T n (Nat.add a 224), q1T n (Nat.add a 240)⟩
def q3T (n a : Nat) : Q16 (Q16 (Q16 (Option LV))) := ⟨q2T n a, q2T n (Nat.add a 256), q2T n (Nat.add a 512), q2T n (Nat.add a 768), q2T n (Nat.add a 1024), q2T n (Nat.add a 1280), q2T n (Nat.add a 1536), q2T n (Nat.add a 1792), q2T n (Nat.add a 2048), q2T n (Nat.add a 2304), q2T n (Nat.add a 2560), q2T n (Nat.add a 2816), q2T n (Nat.add a 3072), q2T n (Nat.add a 3328), q2T n (Nat.add a 3584), q2T n (Nat.add a 3840)⟩
def q4T (n a : Nat) : Q16 (Q16 (Q16 (Q16 (Option LV)))) := ⟨q3T n a, q3T n (Nat.add a 4096), q3T n (Nat.add a 8192), q3T n (Nat.add a 12288), q3T n (Nat.add a 16384), q3T n (Nat.add a 20480), q3T n (Nat.add a 24576), q3T n (Nat.add a 28672), q3T n (Nat.add a 32768), q3T n (Nat.add a 36864), q3T n (Nat.add a 40960), q3T n (Nat.add a 45056), q3T n (Nat.add a 49152), q3T n (Nat.add a 53248), q3T n (Nat.add a 57344), q3T n (Nat.add a 61440)⟩
def q5T (n a : Nat) : Q16 (Q16 (Q16 (Q16 (Q16 (Option LV))))) := ⟨q4T n a, q4T n (Nat.add a 65536), q4T n (Nat.add a 131072), q4T n (Nat.add a 196608), q4T n (Nat.add a 262144), q4T n (Nat.add a 327680), q4T n (Nat.add a 393216), q4T n (Nat.add a 458752), q4T n (Nat.add a 524288), q4T n (Nat.add a 589824), q4T n (Nat.add a 655360), q4T n (Nat.add a 720896), q4T n (Nat.add a 786432), q4T n (Nat.add a 851968), q4T n (Nat.add a 917504), q4T n (Nat.add a 983040)⟩
def topT (_ n : Nat) : T LV := match Nat.ble n 256 with | true => .s (q2T n 0) | false => .b (q5T n 0)
def eArgs : T LV → Nat → List AV → (T LV → Bool) → Bool
 | t, _, [], k => k t
 | t, i, a :: as, k => t.put i (.val a) fun t' => fN (Nat.succ i) fun j => eArgs t' j as k
def efun (P : Program) (slots : Nat → List Nat) (call : ECall) (f : FuncId) (args : List AV) (h : EH) (k : AV → EH → Bool) : Bool :=
 match P.funcs[f]? with
 | none => false
 | some fn => match fn.body with
  | none => false
  | some c => (notCount P f && Nat.blt fn.ntmps 65536) && eArgs (topT 17 fn.ntmps) 0 args fun ρ => ecode P true slots call c 1000000 ρ h fun e ρ' h' => match e with
   | .normal => eresults P ρ' h' fn.results.toList fun l => (match l with | [v] => k v h' | l => k (.tup l) h')
   | .ret => eresults P ρ' h' fn.results.toList fun l => (match l with | [v] => k v h' | l => k (.tup l) h')
   | _ => false
abbrev Ovr := FuncId → Option (List AV → EH → (AV → EH → Bool) → Bool)
def erun (P : Program) (slots : FuncId → Nat → List Nat) (ov : Ovr) : Nat → ECall
 | 0, _, _, _, _ => false
 | n + 1, f, args, h, k => match ov f with
  | some g => g args h k
  | none => efun P (slots f) (erun P slots ov n) f args h k
end Go.Ab
