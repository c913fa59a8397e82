/- The verification condition of an operation, of a piece of code, of a function. Definitions alone. -/
import Derived.Test.YtankijamfedliaaGreatDoorCG1
import Derived.Test.YtankijamfedliaaGreatDoorCG2
namespace Go.Ab
set_option linter.unusedSimpArgs false
set_option linter.unusedVariables false

abbrev CallH := FuncId → List AV → Heap → (AV → Heap → Prop) → Prop
abbrev KO := LV → Locs → Heap → Prop

def vif (b : Bool) (A B : Prop) : Prop := match b with | true => A | false => B

def evI (ρ : List LV) (x : Operand) : Option Int := match ev ρ x with | .val (.int _ n) => some n | _ => none
def optI (ρ : List LV) : Option Operand → Option (Option Int)
  | none => some none
  | some x => (evI ρ x).map some

def isAgg : AV → Bool | .agg _ => true | _ => false
def isTup : AV → Bool | .tup _ => true | _ => false
def okTy (P : Program) (t : TypeId) (z : AV) : Bool := z.cells.length == tsz P t && isAgg z == tagg P t && (P.underlying t).isSome && !isTup z

def noTups (l : List (Nat × AV)) : Bool := l.all fun p => !isTup p.2


/-- n cells of some, as a value. -/
def part (z : AV) (c : List AV) (o : Nat) (K : AV → Prop) : Prop :=
  match isAgg z with
  | true => need (decide (o + z.cells.length ≤ c.length)) (K (.agg ((c.drop o).take z.cells.length)))
  | false => match c[o]? with | some v => K v | none => False

def strIdx (s : List UInt8) (i : Int) (K : AV → Prop) : Prop := 0 ≤ i ∧ match s[i.toNat]? with | some b => K (.int .u8 b.toNat) | none => False

def PStr (h : Heap) (s : Option SL) (K : List UInt8 → Prop) : Prop := ∃ l : List UInt8, slCells h s (slLen s) = some (byteAVs l) ∧ K l

def PAppendS (sz bytes : Nat) (s src : Option SL) (h : Heap) (K : Option SL → Heap → Prop) : Prop :=
  ∃ xs, slCells h src (slLen src * sz) = some xs ∧ PAppend sz bytes s (slLen src) xs h K

def PCopyS (sz : Nat) (s src : Option SL) (h : Heap) (K : Int → Heap → Prop) : Prop :=
  ∃ xs, slCells h src (min (slLen src) (slLen s) * sz) = some xs ∧ PCopy sz s (min (slLen src) (slLen s)) xs h fun h' => K (min (slLen src) (slLen s) : Nat) h'

def PMake (zs : List AV) (bytes : Nat) (l c : Int) (h : Heap) (K : Option SL → Heap → Prop) : Prop :=
  0 ≤ l ∧ l ≤ c ∧ c * bytes ≤ 281474976710656 ∧ c ≤ maxI ∧ K (some ⟨h.length, 0, l.toNat, c.toNat, 0⟩) (h ++ [.cells (List.replicate c.toNat zs).flatten true])

def vCallV (call : CallH) (f : AV) (args : List AV) (h : Heap) (Q : AV → Heap → Prop) : Prop :=
  match f with
  | .func (.func g) first cap => call g (first ++ args ++ cap) h Q
  | _ => False

/-- Which function a method call goes to. -/
def methodOf (P : Program) (t : TypeId) (name : String) : Option FuncId :=
  match P.info? t with
  | none => none
  | some i =>
    match i.methods.find? (·.name == name) with
    | some m =>
      if m.path.isEmpty then
        match m.func, P.underlying t with
        | some (g, true), some (.pointer _) => some g
        | some (g, false), some (.pointer _) => none
        | some (g, false), some _ => some g
        | _, _ => none
      else none
    | none => none

/-- A method of a value, called through a pointer. -/
def methodAt (P : Program) (t : TypeId) (name : String) : Option (FuncId × TypeId) :=
  match P.info? t with
  | none => none
  | some i =>
    match i.methods.find? (·.name == name) with
    | some m =>
      if m.path.isEmpty then
        match m.func, P.underlying t with
        | some (g, false), some (.pointer e) => some (g, e)
        | _, _ => none
      else none
    | none => none

def vInvoke (P : Program) (call : CallH) (r : AV) (name : String) (args : List AV) (h : Heap) (Q : AV → Heap → Prop) : Prop :=
  match r with
  | .iface t v => match methodOf P t name with
    | some g => call g (v :: args) h Q
    | none => match methodAt P t name, v with
      | some (g, e), .ptr (some p) => (match tz P e with
        | some z => (match okTy P e z with | true => PLoad z h p fun v => call g (v :: args) h Q | false => False)
        | none => False)
      | _, _ => False
  | _ => False

/-- A call of a function's value: of a method that is bound to its receiver, too. -/
def vCallF (P : Program) (call : CallH) (f : AV) (args : List AV) (h : Heap) (Q : AV → Heap → Prop) : Prop :=
  match f with
  | .func (.method name) [r] _ => vInvoke P call r name args h Q
  | f => vCallV call f args h Q

def minI (a b : Int) : Int := if b < a then b else a
def maxI2 (a b : Int) : Int := if b > a then b else a

def minL : List AV → (AV → Prop) → Prop
  | [.int k a], K => K (.int k a)
  | [.int k a, .int k' b], K => need (decide (k = k')) (K (.int k (minI a b)))
  | _, _ => False
def maxL : List AV → (AV → Prop) → Prop
  | [.int k a], K => K (.int k a)
  | [.int k a, .int k' b], K => need (decide (k = k')) (K (.int k (maxI2 a b)))
  | _, _ => False

def isU8 (P : Program) (t : TypeId) : Bool := match P.underlying t with | some (.int .u8) => true | _ => false
def isIntT (P : Program) (t : TypeId) : Bool := match P.underlying t with | some (.int _) => true | _ => false
def isStrT (P : Program) (t : TypeId) : Bool := match P.underlying t with | some .string => true | _ => false

def zcells (P : Program) (t : TypeId) : Option (List AV) := match tz P t with | some z => if okTy P t z then some z.cells else none | none => none

/-- One part of a key that is a row: another one? -/
def keyIs1 (P : Program) (t : TypeId) (a b : AV) : Option Bool :=
  match P.underlying t, a, b with
  | some (.int _), .int k x, .int k' y => (match decide (k = k') with | true => some (x == y) | false => none)
  | some .string, .str x, .str y => some (x == y)
  | some .bool, .bool x, .bool y => some (x == y)
  | _, _, _ => none
def keyOk1 (P : Program) (t : TypeId) (a : AV) : Bool :=
  match P.underlying t, a with
  | some (.int q), .int q' _ => decide (q = q')
  | some .string, .str _ => true
  | some .bool, .bool _ => true
  | _, _ => false
/-- Keys that are rows of such. -/
def keysIs (P : Program) : List Field → Nat → List AV → List AV → Option Bool
  | [], _, [], [] => some true
  | f :: fs, off, x :: xs, y :: ys => (match f.offset == off && f.name != "_", keyIs1 P f.type x y, keysIs P fs (off + 1) xs ys with
    | true, some b, some r => some (b && r)
    | _, _, _ => none)
  | _, _, _, _ => none
def keysOk (P : Program) : List Field → Nat → List AV → Bool
  | [], _, [] => true
  | f :: fs, off, x :: xs => f.offset == off && (f.name != "_" && (keyOk1 P f.type x && keysOk P fs (off + 1) xs))
  | _, _, _ => false
def keyS (P : Program) (kt : TypeId) (fs : Array Field) (xs ys : List AV) : Option Bool :=
  match P.stoodInHeld kt with
  | true => none
  | false => keysIs P fs.toList 0 xs ys
/-- Keys that are arrays of such. -/
def keysA (P : Program) (e : TypeId) : List AV → List AV → Option Bool
  | [], [] => some true
  | x :: xs, y :: ys => (match keyIs1 P e x y, keysA P e xs ys with
    | some b, some r => some (b && r)
    | _, _ => none)
  | _, _ => none
def keysAOk (P : Program) (e : TypeId) : List AV → Bool
  | [] => true
  | x :: xs => keyOk1 P e x && keysAOk P e xs
def keyA (P : Program) (n : Nat) (e : TypeId) (xs ys : List AV) : Option Bool :=
  match xs.length == n && (ys.length == n && tsz P e == 1) with
  | true => keysA P e xs ys
  | false => none
/-- Is a key (of a number's, a text's, a bool's kind) another one? -/
def keyIs (P : Program) (kt : TypeId) (a b : AV) (K : Bool → Prop) : Prop :=
  match P.underlying kt, a, b with
  | some (.int _), .int k x, .int k' y => need (decide (k = k')) (K (x == y))
  | some .string, .str x, .str y => K (x == y)
  | some .bool, .bool x, .bool y => K (x == y)
  | some (.struct fs), .agg xs, .agg ys => (match keyS P kt fs xs ys with | some b => K b | none => False)
  | some (.array n e), .agg xs, .agg ys => (match keyA P n e xs ys with | some b => K b | none => False)
  | _, _, _ => False
def keyOk (P : Program) (kt : TypeId) (a : AV) : Bool :=
  match P.underlying kt, a with
  | some (.int q), .int q' _ => decide (q = q')
  | some .string, .str _ => true
  | some .bool, .bool _ => true
  | some (.struct fs), .agg xs => keysOk P fs.toList 0 xs
  | some (.array n e), .agg xs => xs.length == n && (tsz P e == 1 && keysAOk P e xs)
  | _, _ => false
/-- The entry of a key. -/
def findP (P : Program) (kt : TypeId) (k : AV) : List (AV × AV × Nat) → Nat → (Option (Nat × AV × Nat) → Prop) → Prop
  | [], _, K => K none
  | (k', v, n) :: es, i, K => keyIs P kt k k' fun b => vif b (K (some (i, v, n))) (findP P kt k es (i + 1) K)
def mapEs (h : Heap) : Option Nat → Option (List (AV × AV × Nat))
  | none => some []
  | some b => match h[b]? with | some (.mp es _) => some es | _ => none
def PLookup (P : Program) (kt et : TypeId) (m : Option Nat) (k : AV) (ok : Bool) (h : Heap) (K : AV → Prop) : Prop :=
  match mapEs h m, tz P et with
  | some es, some z => need (keyOk P kt k) (findP P kt k es 0 fun r => K (let v := (match r with | some (_, v, _) => v | none => z); match ok with | true => .tup [v, .bool r.isSome] | false => v))
  | _, _ => False
def PUpdate (P : Program) (kt : TypeId) (b : Nat) (k v : AV) (h : Heap) (K : Heap → Prop) : Prop :=
  match h[b]? with
  | some (.mp es cl) => need (keyOk P kt k && !isTup v) (findP P kt k es 0 fun r => match r with
    | some (i, _, n) => K (h.set b (.mp (es.set i (k, v, n)) cl))
    | none => K (h.set b (.mp (es ++ [(k, v, cl)]) (cl + 1))))
  | _ => False
def PDelete (P : Program) (kt : TypeId) (m : Option Nat) (k : AV) (h : Heap) (K : Heap → Prop) : Prop :=
  match m with
  | none => need (keyOk P kt k) (K h)
  | some b => match h[b]? with
    | some (.mp es cl) => need (keyOk P kt k) (findP P kt k es 0 fun r => match r with
      | some (i, _, _) => K (h.set b (.mp (es.eraseIdx i) cl))
      | none => K (h.set b (.mp es cl)))
    | _ => False
def allE : List (AV × AV × Nat) → (AV × AV × Nat → Prop) → Prop
  | [], _ => True
  | [e], K => K e
  | e :: es, K => K e ∧ allE es K
def leftE (es : List (AV × AV × Nat)) (seen : List Nat) : List (AV × AV × Nat) := es.filter fun e => !seen.contains e.2.2
def PNext (b : Nat) (h : Heap) (K : AV → Heap → Prop) : Prop :=
  match h[b]? with
  | some (.it none _ _ _) => K (.tup [.bool false]) h
  | some (.it (some m) since seen last) => (match h[m]? with
    | some (.mp es cl) => need (es.all fun e => decide (e.2.2 < since) && decide (e.2.2 < last)) (match leftE es seen with
      | [] => K (.tup [.bool false]) h
      | l => allE l fun e => K (.tup [.bool true, e.1, e.2.1]) (h.set b (.it (some m) since (seen ++ [e.2.2]) cl)))
    | _ => False)
  | _ => False
def PNext2 (b : Nat) (h : Heap) (KE : Heap → Prop) (KN : AV → AV → Heap → Prop) : Prop :=
  match h[b]? with
  | some (.it none _ _ _) => KE h
  | some (.it (some m) since seen last) => (match h[m]? with
    | some (.mp es cl) => need (es.all fun e => decide (e.2.2 < since) && decide (e.2.2 < last)) (match leftE es seen with
      | [] => KE h
      | l => allE l fun e => KN e.1 e.2.1 (h.set b (.it (some m) since (seen ++ [e.2.2]) cl)))
    | _ => False)
  | _ => False
/-- Of which map's kind an entry is: a hint. -/
def entryZ (P : Program) (isLoc : Nat → Bool) (d : Option Nat) : Option AV :=
  match d with
  | none => none
  | some d => (List.range 500).findSome? fun t => match isLoc (100000 + 1000 * d + t) with
    | true => (match P.underlying t with
      | some (.map kt et) => (match tz P kt, tz P et with
        | some a, some b => some (.tup [a, b])
        | _, _ => none)
      | _ => none)
    | false => none
def PEntry (b : Nat) (h : Heap) (K : AV → Prop) : Prop :=
  match h[b]? with
  | some (.it (some m) _ seen stepped) => (match seen.getLast?, h[m]? with
    | some stamp, some (.mp es cl) => need (cl == stepped) (match es.find? (fun e => e.2.2 == stamp) with
      | some e => K (.tup [e.1, e.2.1])
      | none => False)
    | _, _ => False)
  | _ => False

/-- A map that there is. -/
def vMap (m : Option Nat) (K : Nat → Prop) : Prop := match m with | some b => K b | none => False
/-- A slice that is not nil. -/
def vSl (s : Option SL) (K : SL → Prop) : Prop := match s with | some s => K s | none => False
/-- How many entries a map has. -/
def vLenM (h : Heap) (m : Option Nat) (K : Nat → Prop) : Prop := match mapEs h m with | some es => K es.length | none => False

/-- clear of a slice. -/
def PClear (zs : List AV) (s : Option SL) (h : Heap) (K : Heap → Prop) : Prop :=
  match s with
  | none => K h
  | some s => match s.len with
    | 0 => K h
    | n + 1 => need (oneAll zs) (PStore h ⟨s.b, s.o⟩ (List.replicate (n + 1) zs).flatten K)

/-- A walk over a map begins. -/
def vRange (m : Option Nat) (h : Heap) (K : Nat → Heap → Prop) : Prop :=
  match m with
  | none => K h.length (h ++ [.it none 0 [] 0])
  | some b => match h[b]? with
    | some (.mp _ cl) => K h.length (h ++ [.it (some b) cl [] cl])
    | _ => False

def vBuiltin (P : Program) (b : Builtin) (argT : List TypeId) (args : List AV) (L : Locs) (h : Heap) (K : KO) : Prop :=
  match b, argT, args with
  | .len, [t], [.sl s] => match P.underlying t with | some (.slice _) => K (.val (.int .i64 (slLen s))) L h | _ => False
  | .len, [t], [.str s] => match P.underlying t with | some .string => K (.val (.int .i64 s.length)) L h | _ => False
  | .len, [t], [.map m] => match P.underlying t with | some (.map _ _) => vLenM h m fun n => K (.val (.int .i64 (n : Nat))) L h | _ => False
  | .delete, [t, _], [.map m, k] => match P.underlying t with | some (.map kt _) => PDelete P kt m k h fun h' => K (.val (.tup [])) L h' | _ => False
  | .clear, [t], [.sl s] => match telem P t with
    | none => False
    | some e => match zcells P e with
      | none => False
      | some zs => PClear zs s h fun h' => K (.val (.tup [])) L h'
  | .cap, [t], [.sl s] => match P.underlying t, s with
      | some (.slice _), none => K (.val (.int .i64 0)) L h
      | some (.slice _), some s => s.opn = 0 ∧ K (.val (.int .i64 s.cap)) L h
      | _, _ => False
  | .append, [t, u], [.sl s, x] =>
    match telem P t with
    | none => False
    | some e =>
      match zcells P e with
      | none => False
      | some zs =>
        need (decide (0 < tbytes P e)) <|
        match isIntT P u, x with
        | true, .int _ n => need (oneAll zs) <| 0 ≤ n ∧ n ≤ maxI ∧ n * tbytes P e ≤ 140737488355328 ∧ PAppend (tsz P e) (tbytes P e) s n.toNat (List.replicate n.toNat zs).flatten h fun s' h' => K (.val (.sl s')) L h'
        | false, .sl src => need (telem P u).isSome <| PAppendS (tsz P e) (tbytes P e) s src h fun s' h' => K (.val (.sl s')) L h'
        | false, .str src => need (isStrT P u && tsz P e == 1) (PAppend 1 (tbytes P e) s src.length (byteAVs src) h fun s' h' => K (.val (.sl s')) L h')
        | _, _ => False
  | .copy, [t, u], [.sl s, .sl src] =>
    match telem P t with
    | none => False
    | some e => need (P.info? e).isSome (PCopyS (tsz P e) s src h fun n h' => K (.val (.int .i64 n)) L h')
  | .min, _, args => minL args fun v => K (.val v) L h
  | .max, _, args => maxL args fun v => K (.val v) L h
  | _, _, _ => False

/-- A new block. -/
def PNew (c : List AV) (rw : Bool) (h : Heap) (K : Nat → Heap → Prop) : Prop := K h.length (h ++ [.cells c rw])

/-- A made block's pointer: one of the call's own, or in the heap. -/
def vNew (loc : Bool) (c : List AV) (L : Locs) (h : Heap) (K : KO) : Prop :=
  need (oneAll c) (match loc with
  | true => K (.loc L.length 0) (L ++ [c]) h
  | false => PNew c true h fun b h' => K (.val (.ptr (some ⟨b, 0⟩))) L h')

def vLoad (P : Program) (t : TypeId) (x : LV) (L : Locs) (h : Heap) (K : AV → Prop) : Prop :=
  match tz P t with
  | none => False
  | some z =>
    match okTy P t z with
    | false => False
    | true =>
      match x with
      | .loc k o => match L[k]? with | some c => part z c o K | none => False
      | .val (.ptr q) => vPtr q fun p => PLoad z h p K
      | _ => False

def vop (P : Program) (isLoc : Nat → Bool) (call : CallH) (o : Oper) (ρ : List LV) (L : Locs) (h : Heap) (K : KO) : Prop :=
  match o.op with
  | .move x | .assign x => K (ev ρ x) L h
  | .pick c a b => match ev ρ c with | .val (.bool t) => vif t (K (ev ρ a) L h) (K (ev ρ b) L h) | _ => False
  | .alloc t => match zcells P t, o.dst with | some zs, some d => vNew (isLoc d) zs L h K | _, _ => False
  | .box t x => match ev ρ x, o.dst with | .val (.tup _), _ => False | .val v, some d => vNew (isLoc d) v.cells L h K | _, _ => False
  | .load t x => vLoad P t (ev ρ x) L h fun v => K (.val v) L h
  | .store t a x =>
    match ev ρ x with
    | .val v =>
      need ((P.info? t).isSome && v.cells.length == tsz P t && oneAll v.cells) <|
        match ev ρ a with
        | .loc k i => match L[k]? with | some c => need (decide (i + v.cells.length ≤ c.length)) (K .top (L.set k (splice c i v.cells)) h) | none => False
        | .val (.ptr q) => vPtr q fun p => PStore h p v.cells fun h' => K .top L h'
        | _ => False
    | _ => False
  | .nilCheck x =>
    match ev ρ x with
    | .loc k i => K (.loc k i) L h
    | .val (.ptr q) => vPtr q fun p => K (.val (.ptr (some p))) L h
    | .val (.func (.func f) a c) => K (.val (.func (.func f) a c)) L h
    | .val (.iface t v) => K (.val (.iface t v)) L h
    | _ => False
  | .binOp op t x y _ =>
    match ev ρ x, ev ρ y with
    | .val a, .val b => aBin P op t h a b fun v => K (.val v) L h
    | _, _ => False
  | .unOp op _ x => match ev ρ x with | .val a => aUn op a fun v => K (.val v) L h | _ => False
  | .convert src dst x =>
    match P.underlying src, P.underlying dst, ev ρ x with
    | some _, some (.int k), .val (.int _ n) => K (.val (.int k (wrapK k n))) L h
    | some .string, some .string, .val (.str s) => K (.val (.str s)) L h
    | some (.slice e), some .string, .val (.sl s) => need (isU8 P e) (PStr h s fun l => K (.val (.str l)) L h)
    | some .string, some (.slice e), .val (.str s) => need (isU8 P e) (s.length ≤ 4611686018427387904 ∧ PNew (byteAVs s) false h fun b h' => K (.val (.sl (some ⟨b, 0, s.length, s.length, 1⟩))) L h')
    | _, _, _ => False
  | .fieldAddr s x f =>
    match fieldOff P s f with
    | none => False
    | some (off, ft) =>
      need (decide (0 < tsz P ft)) <|
        match ev ρ x with
        | .loc k i => K (.loc k (i + off)) L h
        | .val (.ptr q) => vPtr q fun p => K (.val (.ptr (some ⟨p.b, p.o + off⟩))) L h
        | _ => False
  | .field s x f =>
    match fieldOff P s f, ev ρ x with
    | some (off, ft), .val (.agg cs) =>
      match tz P ft with
      | some z => need (okTy P ft z) (part z cs off fun v => K (.val v) L h)
      | none => False
    | _, _ => False
  | .indexAddr t x ix =>
    match evI ρ ix, P.underlying t, ev ρ x, x with
    | some i, some (.slice e), .val (.sl s), _ => need (P.info? e).isSome (vIdx s i (tsz P e) fun p => K (.val (.ptr (some p))) L h)
    | some i, some (.array n e), .val (.ptr q), _ => vPtr q fun p => need ((P.info? e).isSome && (decide (0 ≤ i) && decide (i < n))) (K (.val (.ptr (some ⟨p.b, p.o + i.toNat * tsz P e⟩))) L h)
    | some i, some (.array n e), .loc k j, _ => need ((P.info? e).isSome && (decide (0 ≤ i) && decide (i < n))) (K (.loc k (j + i.toNat * tsz P e)) L h)
    | some i, some (.array n e), .top, .global g => need ((P.info? e).isSome && (decide (0 ≤ i) && decide (i < n))) (∃ a j : Nat, h[a]? = some (.gm g j) ∧ K (.val (.ptr (some ⟨j, i.toNat * tsz P e⟩))) L h)
    | _, _, _, _ => False
  | .index t x ix =>
    match evI ρ ix, P.underlying t, ev ρ x with
    | some i, some .string, .val (.str s) => strIdx s i fun v => K (.val v) L h
    | _, _, _ => False
  | .build t ps =>
    match tz P t, P.underlying t, partsA ρ ps with
    | some (.agg zs), some (.struct fs), some parts =>
      need (noTups parts && fs.toList.all fun f => (P.info? f.type).isSome) <|
      match fillA (fun i => (fs[i]?).map fun f => (f.offset, tsz P f.type)) zs parts with
      | some cells => K (.val (.agg cells)) L h
      | none => False
    | some (.agg zs), some (.array _ e), some parts =>
      need (noTups parts && (P.info? e).isSome) <|
      match fillA (fun i => some (i * tsz P e, tsz P e)) zs parts with
      | some cells => K (.val (.agg cells)) L h
      | none => False
    | _, _, _ => False
  | .buildSlice t n ps =>
    match telem P t with
    | none => False
    | some e =>
      match zcells P e, partsA ρ ps with
      | some zs, some parts =>
        need (decide (n * tsz P e ≤ 16777216) && noTups parts) <|
        match fillA (fun i => some (i * tsz P e, tsz P e)) (List.replicate n zs).flatten parts with
        | some cells => need (oneAll cells) (PNew cells true h fun b h' => K (.val (.sl (some ⟨b, 0, n, n, 0⟩))) L h')
        | none => False
      | _, _ => False
  | .slice t x lo hi mx =>
    match P.underlying t, ev ρ x, optI ρ lo, optI ρ hi, optI ρ mx with
    | some (.slice e), .val (.sl s), some l, some hh, some m => need ((P.info? e).isSome && (m.isNone || hh.isSome)) (PSlice (tsz P e) s (l.getD 0) hh m fun s' => K (.val (.sl s')) L h)
    | some .string, .val (.str s), some l, some hh, some none => strSlice s (l.getD 0) hh fun s' => K (.val (.str s')) L h
    | some (.array n e), .val (.ptr q), some l, some hh, some m => vPtr q fun p => need ((P.info? e).isSome && (m.isNone || hh.isSome)) (PSlice (tsz P e) (some ⟨p.b, p.o, n, n, 0⟩) (l.getD 0) hh m fun s' => K (.val (.sl s')) L h)
    | _, _, _, _, _ => False
  | .makeSlice t l c =>
    match telem P t with
    | none => False
    | some e =>
      match zcells P e, evI ρ l, evI ρ c with
      | some zs, some n, some m => need (oneAll zs) <| PMake zs (tbytes P e) n m h fun s' h' => K (.val (.sl s')) L h'
      | _, _, _ => False
  | .sliceToArrayPointer t x =>
    match P.underlying t, ev ρ x with
    | some (.array n _), .val (.sl s) => vSl s fun s => need (decide (0 < n) && decide (n ≤ s.len)) (K (.val (.ptr (some ⟨s.b, s.o⟩))) L h)
    | _, _ => False
  | .makeMap _ r => match r with | none => K (.val (.map (some h.length))) L (h ++ [.mp [] 0]) | some _ => False
  | .lookup t x ix ok =>
    match P.underlying t, ev ρ x, ev ρ ix, tz P o.type with
    | some (.map kt et), .val (.map m), .val k, some z => PLookup P kt et m k ok h fun v => exV z fun u => v = u ∧ K (.val u) L h
    | _, _, _, _ => False
  | .mapUpdate t m k x =>
    match P.underlying t, ev ρ m, ev ρ k, ev ρ x with
    | some (.map kt _), .val (.map m), .val k, .val v => vMap m fun b => PUpdate P kt b k v h fun h' => K .top L h'
    | _, _, _, _ => False
  | .insert t m k x =>
    match P.underlying t, ev ρ m, ev ρ k, ev ρ x with
    | some (.map kt _), .val (.map m), .val k, .val v => vMap m fun b => PUpdate P kt b k v h fun h' => K .top L h'
    | _, _, _, _ => False
  | .range t x =>
    match P.underlying t, ev ρ x with
    | some (.map _ _), .val (.map m) => vRange m h fun b h' => K (.val (.ptr (some ⟨b, 0⟩))) L h'
    | _, _ => False
  | .next x isS =>
    match isS, ev ρ x with
    | false, .val (.ptr (some p)) => need (decide (p.o = 0)) (PNext2 p.b h (fun h' => K (.val (.tup [.bool false])) L h') fun k e h' => K (.val (.tup [.bool true, k, e])) L h')
    | _, _ => False
  | .entry x =>
    match ev ρ x, entryZ P isLoc o.dst with
    | .val (.ptr (some p)), some z => need (decide (p.o = 0)) (PEntry p.b h fun v => exV z fun u => v = u ∧ K (.val u) L h)
    | .val (.ptr (some p)), none => need (decide (p.o = 0)) (PEntry p.b h fun v => K (.val v) L h)
    | _, _ => False
  | .extract x i => match ev ρ x with | .val (.tup vs) => (match vs[i]? with | some v => K (.val v) L h | none => False) | _ => False
  | .makeFunc fn f c => match vals ρ f.toList, vals ρ c.toList with | some a, some b => K (.val (.func fn a b)) L h | _, _ => False
  | .makeInterface t x => match P.underlying t, ev ρ x with | some (.interface _), _ => False | some _, .val v => K (.val (.iface t v)) L h | _, _ => False
  | .call c =>
    match vals ρ c.args.toList with
    | none => False
    | some args =>
      match c.callee with
      | .value f =>
        match ev ρ f, tz P o.type with
        | .val g, some z => vCallF P call g args h fun v h' => exV z fun u => v = u ∧ K (.val u) L h'
        | _, _ => False
      | .invoke r name =>
        match ev ρ r, tz P o.type with
        | .val g, some z => vInvoke P call g name args h fun v h' => exV z fun u => v = u ∧ K (.val u) L h'
        | _, _ => False
      | .builtin b => vBuiltin P b c.argTypes.toList args L h K
  | _ => False

structure St where
  ρ : List LV
  L : Locs
  h : Heap

def St.put (st : St) (d : Option Nat) (v : LV) (L : Locs) (h : Heap) : St :=
  ⟨match d with | some d => st.ρ.set d v | none => st.ρ, L, h⟩

/-- What a guard says: is the operation carried out? -/
def guardVal (ops : Array Oper) (ρ : List LV) (j : Nat) : Option Bool :=
  match (ops[j]?).bind (·.dst) with
  | some d => match ρ[d]? with | some (.val (.bool b)) => some b | _ => none
  | none => none

/-- What stands in the slot of an operation that was not carried out. -/
def LV.und : LV := .val (.tup [])

/-- The guard itself was not carried out. -/
def guardOff (ops : Array Oper) (ρ : List LV) (j : Nat) : Bool :=
  match (ops[j]?).bind (·.dst) with
  | some d => match ρ[d]? with | some (.val (.tup [])) => true | _ => false
  | none => false

/-- Is the operation carried out? -/
def actsAt (ops : Array Oper) (o : Oper) (ρ : List LV) : Option Bool :=
  match o.guard with
  | none => some true
  | some (j, want) => match guardOff ops ρ j with
    | true => some false
    | false => (guardVal ops ρ j).map (· == want)

/-- The guard's slot, its word known. -/
def setG (ops : Array Oper) (ρ : List LV) (j : Nat) (b : Bool) : List LV :=
  match (ops[j]?).bind (·.dst) with
  | some d => ρ.set d (.val (.bool b))
  | none => ρ

/-- On one side of a guard. -/
def vside (P : Program) (isLoc : Nat → Bool) (call : CallH) (o : Oper) (act : Bool) (st : St) (K : St → Prop) : Prop :=
  match act with
  | true => vop P isLoc call o st.ρ st.L st.h fun v L h => K (st.put o.dst v L h)
  | false => K (st.put o.dst .und st.L st.h)

def vguarded (P : Program) (isLoc : Nat → Bool) (call : CallH) (ops : Array Oper) (o : Oper) (st : St) (K : St → Prop) : Prop :=
  match o.guard with
  | none => vop P isLoc call o st.ρ st.L st.h fun v L h => K (st.put o.dst v L h)
  | some (j, want) =>
    match guardOff ops st.ρ j with
    | true => K (st.put o.dst .und st.L st.h)
    | false => match guardVal ops st.ρ j with
      | none => False
      | some b => vif b (vside P isLoc call o want ⟨setG ops st.ρ j true, st.L, st.h⟩ K) (vside P isLoc call o (!want) ⟨setG ops st.ρ j false, st.L, st.h⟩ K)

def vops (P : Program) (isLoc : Nat → Bool) (call : CallH) (ops : Array Oper) : List Nat → St → (St → Prop) → Prop
  | [], st, K => K st
  | i :: is, st, K =>
    match ops[i]? with
    | none => False
    | some o => vguarded P isLoc call ops o st fun st' => vops P isLoc call ops is st' K

def writes : Code → List Nat
  | .region _ ops _ => ops.toList.filterMap (·.dst)
  | .seq a b => writes a ++ writes b
  | .cond _ a b => writes a ++ writes b
  | .block _ a => writes a
  | .loop a => writes a
  | .scope a => writes a
  | .rangeFunc _ _ a b => writes a ++ writes b
  | _ => []

structure LoopInfo where
  slots : List Nat
  mods : List Nat

def slotVals (ρ : List LV) : List Nat → Option (List AV)
  | [] => some []
  | s :: ss => match ρ[s]?, slotVals ρ ss with | some (.val v), some l => some (v :: l) | _, _ => none

def locVals (L : Locs) : List Nat → Option (List AV)
  | [] => some []
  | k :: ks => match L[k]?, locVals L ks with | some c, some l => some (c ++ l) | _, _ => none

def carry (i : LoopInfo) (st : St) : Option (List AV) :=
  match slotVals st.ρ i.slots, locVals st.L i.mods with
  | some a, some b => some (a ++ b)
  | _, _ => none

def setTop (ρ : List LV) : List Nat → List LV
  | [] => ρ
  | t :: ts => setTop (ρ.set t .top) ts

def setSlots (ρ : List LV) : List Nat → List AV → List LV
  | s :: ss, v :: vs => setSlots (ρ.set s (.val v)) ss vs
  | _, _ => ρ

def setLocs (L : Locs) : List Nat → List AV → Locs
  | k :: ks, vs => match L[k]? with
    | some c => setLocs (L.set k (vs.take c.length)) ks (vs.drop c.length)
    | none => L
  | [], _ => L

/-- The frame at a round's head. -/
def headSt (i : LoopInfo) (w : List Nat) (st : St) (xs : List AV) (h : Heap) : St :=
  ⟨setSlots (setTop st.ρ w) i.slots (xs.take i.slots.length), setLocs st.L i.mods (xs.drop i.slots.length), h⟩

def sameShape : AV → AV → Bool
  | .int k _, .int k' _ => decide (k = k')
  | .bool _, .bool _ => true
  | .str _, .str _ => true
  | .ptr _, .ptr _ => true
  | .sl _, .sl _ => true
  | .map _, .map _ => true
  | .func .., v => v.one
  | .nilfunc, v => v.one
  | .iface .., v => v.one
  | .niliface, v => v.one
  | .agg _, v => v.one
  | .tup _, v => v.one
  | _, _ => false
def sameShapes : List AV → List AV → Bool
  | [], [] => true
  | a :: as, b :: bs => sameShape a b && sameShapes as bs
  | _, _ => false

/-- Those of the call's own variables that a round must leave as they are. -/
def keepL (mods : List Nat) (L0 L : Locs) : Nat → Prop
  | 0 => True
  | n + 1 => (match mods.contains n with
      | true => match L[n]?, L0[n]? with | some c, some c0 => need (c.length == c0.length) True | _, _ => False
      | false => L[n]? = L0[n]?) ∧ keepL mods L0 L n

def VLoop (body : List AV → Heap → (List AV → Heap → Prop) → Prop) (xs0 : List AV) (h0 : Heap) : Prop :=
  ∃ (I : List AV → Heap → Prop) (m : List AV → Heap → Nat), I xs0 h0 ∧ allL xs0 fun xs => ∀ h, I xs h → body xs h fun xs' h' => I xs' h' ∧ m xs' h' < m xs h

/-- Where the ways through a block come together: what goes on, and of which kinds it is. -/
structure CutInfo where
  info : LoopInfo
  kinds : List AV

structure Hints where
  loc : Nat → Bool
  loops : Nat → LoopInfo
  plan : Nat → List Nat
  cut : Nat → Option CutInfo := fun _ => none

/-- What holds where the ways come together. -/
def VCut (body : (List AV → Heap → Prop) → Prop) (zs : List AV) (rest : List AV → Heap → Prop) : Prop :=
  ∃ J : List AV → Heap → Prop, body J ∧ allL zs fun xs => ∀ h, J xs h → rest xs h

abbrev DrawH := Nat → Array Oper → St → (St → Prop) → Prop

/-- A condition's slot, its word known. -/
def setC (st : St) (c : Operand) (b : Bool) : St :=
  match c with
  | .tmp t => ⟨st.ρ.set t (.val (.bool b)), st.L, st.h⟩
  | _ => st

def vcode (P : Program) (H : Hints) (call : CallH) (draw : DrawH) : Code → Nat → St → (Exit → St → Prop) → Prop
  | .skip, _, st, Q => Q .normal st
  | .region id ops d, _, st, Q =>
    match d with
    | false => vops P H.loc call ops (List.range ops.size) st (Q .normal)
    | true => draw id ops st (Q .normal)
  | .seq a b, cur, st, Q =>
    vcode P H call draw a cur st fun e st' => match e with
      | .normal => vcode P H call draw b cur st' Q
      | e => Q e st'
  | .cond c a b, cur, st, Q =>
    match ev st.ρ c with
    | .val (.bool t) => vif t (vcode P H call draw a cur (setC st c true) Q) (vcode P H call draw b cur (setC st c false) Q)
    | _ => False
  | .block id body, _, st, Q =>
    match H.cut id with
    | none => vcode P H call draw body id st fun e st' => match e with
      | .exit i => (match i == id with | true => Q .normal st' | false => Q (.exit i) st')
      | e => Q e st'
    | some c =>
      need (locVals st.L c.info.mods).isSome <| VCut (fun K => vcode P H call draw body id st fun e st' => match e with
        | .exit i => (match i == id with
          | true => (match carry c.info st' with
            | some xs => need (sameShapes c.kinds xs) (keepL c.info.mods st.L st'.L st.L.length ∧ K xs st'.h)
            | none => False)
          | false => Q (.exit i) st')
        | .normal => (match carry c.info st' with
            | some xs => need (sameShapes c.kinds xs) (keepL c.info.mods st.L st'.L st.L.length ∧ K xs st'.h)
            | none => False)
        | e => Q e st') c.kinds fun xs h => Q .normal (headSt c.info (writes body) st xs h)
  | .loop body, cur, st, Q =>
    match carry (H.loops cur) st with
    | none => False
    | some xs0 =>
      need (sameShapes xs0 xs0) <| VLoop (fun xs h K => vcode P H call draw body cur (headSt (H.loops cur) (writes body) st xs h) fun e st' => match e with
        | .normal => match carry (H.loops cur) st' with
          | some xs' => need (sameShapes xs0 xs') (keepL (H.loops cur).mods st.L st'.L st.L.length ∧ K xs' st'.h)
          | none => False
        | e => Q e st') xs0 st.h
  | .exit id, _, st, Q => Q (.exit id) st
  | .ret, _, st, Q => Q .ret st
  | .scope body, cur, st, Q =>
    vcode P H call draw body cur st fun e st' => match e with
      | .goto _ => False
      | e => Q e st'
  | .label _, _, st, Q => Q .normal st
  | _, _, _, _ => False

def vresult (P : Program) (st : St) : ResultVar → (AV → Prop) → Prop
  | .tmp t, K => match st.ρ[t]? with | some (.val v) => K v | _ => False
  | .cell a t, K => vLoad P t (st.ρ.getD a .top) st.L st.h K

def vresults (P : Program) (st : St) : List ResultVar → (List AV → Prop) → Prop
  | [], K => K []
  | r :: rs, K => vresult P st r fun v => vresults P st rs fun l => K (v :: l)

def vret (P : Program) (fn : Func) (st : St) (Q : AV → Heap → Prop) : Prop :=
  vresults P st fn.results.toList fun l => match l with
    | [v] => Q v st.h
    | l => Q (.tup l) st.h

def vfun (P : Program) (H : Hints) (call : CallH) (draw : DrawH) (f : FuncId) (args : List AV) (h : Heap) (Q : AV → Heap → Prop) : Prop :=
  match P.funcs[f]? with
  | none => False
  | some fn =>
    match fn.body with
    | none => False
    | some c =>
      vcode P H call draw c 1000000 ⟨args.map .val ++ List.replicate (fn.ntmps - args.length) .top, [], h⟩ fun e st => match e with
        | .normal => vret P fn st Q
        | .ret => vret P fn st Q
        | _ => False
end Go.Ab

/- The disk: the plain model. -/
namespace Go.Dsk
open Go.Ab
set_option linter.unusedVariables false
set_option linter.unusedSimpArgs false
abbrev Bs := List UInt8
def insR (n : Bs) : List Bs → List Bs
  | [] => [n]
  | x :: l => if bytesLess x n then x :: insR n l else if x = n then x :: l else n :: x :: l
def docNames (l : List Bs) : List Bs := l.foldl (fun o n => insR n o) []
abbrev PD := Nat × Nat × Bs
structure FA where
  b : Nat
  name : Bs
  now : List Bs
  safe : List Bs
structure DS where
  files : List FA
  pends : List PD
  limit : Int
  left : Int
  off : Bool
variable {D : DS} {f f1 f2 : FA} {b : Nat}
def DS.find (D : DS) (s : Bs) : Option FA := D.files.find? (fun f => f.name == s)
def mayN (s : Bs) : Bool := decide (1 ≤ s.length) && decide (s.length ≤ 24)
def DS.deed (D : DS) : Int × DS := if D.left = 0 then (50, { D with off := true }) else if D.left > 0 then (0, { D with left := D.left - 1 }) else (0, D)
def emptyD (n : Int) : DS := ⟨[], [], n, -1, false⟩
def upF (fs : List FA) (f' : FA) : List FA := fs.map fun g => if g.b = f'.b then f' else g
theorem upF_mem {fs : List FA} {f' g : FA} (h : g ∈ upF fs f') : g = f' ∨ (g ∈ fs ∧ g.b ≠ f'.b) := by
  obtain ⟨g0, h1, h2⟩ := List.mem_map.1 h
  split at h2
  · exact .inl h2.symm
  · subst h2; exact .inr ⟨h1, by assumption⟩
theorem upF_b {fs : List FA} {f' : FA} : (upF fs f').map (·.b) = fs.map (·.b) := by
  rw [upF, List.map_map]
  apply List.map_congr_left
  intro g _
  simp only [Function.comp]
  split
  · rename_i h; exact h.symm
  · rfl
theorem uniq_b {fs : List FA} (hn : (fs.map (·.b)).Nodup) {f g : FA} (hf : f ∈ fs) (hg : g ∈ fs) (h : f.b = g.b) : f = g := by
  induction fs with
  | nil => cases hf
  | cons x fs ih =>
    simp only [List.map_cons, List.nodup_cons, List.mem_map, not_exists, not_and] at hn
    rcases List.mem_cons.1 hf with rfl | hf' <;> rcases List.mem_cons.1 hg with rfl | hg'
    · rfl
    · exact absurd h.symm (hn.1 g hg')
    · exact absurd h (hn.1 f hf')
    · exact ih hn.2 hf' hg'
theorem uniq_n {fs : List FA} (hn : (fs.map (·.name)).Nodup) {f g : FA} (hf : f ∈ fs) (hg : g ∈ fs) (h : f.name = g.name) : f = g := by
  induction fs with
  | nil => cases hf
  | cons x fs ih =>
    simp only [List.map_cons, List.nodup_cons, List.mem_map, not_exists, not_and] at hn
    rcases List.mem_cons.1 hf with rfl | hf' <;> rcases List.mem_cons.1 hg with rfl | hg'
    · rfl
    · exact absurd h.symm (hn.1 g hg')
    · exact absurd h (hn.1 f hf')
    · exact ih hn.2 hf' hg'
def mkF (b : Nat) (s : Bs) : FA := ⟨b, s, [], []⟩
theorem deed_files : D.deed.2.files = D.files := by
  unfold DS.deed
  split
  · rfl
  · split <;> rfl
theorem deed_pends : D.deed.2.pends = D.pends := by
  unfold DS.deed
  split
  · rfl
  · split <;> rfl
def DS.create (D : DS) (s : Bs) (b : Nat) : Int × DS :=
  if !mayN s then (1, D) else if D.off then (50, D) else if (D.find s).isSome then (5, D) else if 256 ≤ D.files.length then (2, D)
  else if D.deed.1 = 0 then (0, { D.deed.2 with files := D.files ++ [mkF b s] }) else D.deed
def DS.lenOf (D : DS) (n : Bs) : Nat := match D.find n with | some f => f.now.length | none => 0
def DS.namesL (D : DS) : List Bs := docNames (D.files.map (·.name))
def DS.list (D : DS) : List (Bs × Nat) := D.namesL.map fun n => (n, D.lenOf n)
def DS.used (D : DS) : Nat := (D.files.map (·.now.length)).sum
def DS.write (D : DS) (f : FA) (i : Nat) (s : Bs) : DS := { D with files := upF D.files { f with now := f.now.set i s }, pends := D.pends ++ [(f.b, i, s)] }
def DS.append (D : DS) (s : Bs) (b : Bs) : Int × DS :=
  if b.length ≠ 64 then (1, D) else if D.off then (50, D) else match D.find s with
  | none => (4, D)
  | some f => if D.limit ≤ D.used then (2, D) else if D.deed.1 = 0 then (0, { D.deed.2 with files := upF D.files { f with now := f.now ++ [b] }, pends := D.pends ++ [(f.b, f.now.length, b)] }) else D.deed
theorem upF_upF {fs : List FA} (h : f2.b = f1.b) : upF (upF fs f1) f2 = upF fs f2 := by
  rw [upF, upF, upF, List.map_map]
  apply List.map_congr_left
  intro g _
  simp only [Function.comp, h]
  split
  · simp
  · rename_i hne; simp [hne]
def pad (s : Bs) : Bs := (List.range 64).map fun i => s.getD i 0
theorem pad_len {s : Bs} : (pad s).length = 64 := by simp [pad]
theorem pad_self {s : Bs} (h : s.length = 64) : pad s = s := by
  refine List.ext_getElem? fun i => ?_
  rcases Nat.lt_or_ge i 64 with hi | hi
  · rw [pad, List.getElem?_map, List.getElem?_range hi, List.getElem?_eq_getElem (by omega)]
    simp [List.getD_eq_getElem?_getD, List.getElem?_eq_getElem (by omega : i < s.length)]
  · rw [List.getElem?_eq_none (by rw [pad_len]; omega), List.getElem?_eq_none (by omega)]
def mixS (s r : Bs) (n : Nat) : Bs := (List.range 64).map fun i => if i < n then s.getD i 0 else r.getD i 0
def padTo (l : List Bs) (n : Nat) : List Bs := l ++ List.replicate (n - l.length) []
def keepF (f : FA) (i : Nat) (s : Bs) (n : Int) : FA :=
  if n < 1 then f else { f with safe := (padTo f.safe (i + 1)).set i (mixS s ((padTo f.safe (i + 1)).getD i []) (min n 64).toNat) }
theorem padTo_len {l : List Bs} {n : Nat} : (padTo l n).length = max l.length n := by simp [padTo]; omega
theorem padTo_id {l : List Bs} {n : Nat} (h : n ≤ l.length) : padTo l n = l := by simp [padTo, Nat.sub_eq_zero_of_le h]
theorem padTo_padTo {l : List Bs} {i j : Nat} (h : i ≤ j) : padTo (padTo l i) j = padTo l j := by
  simp only [padTo, List.length_append, List.length_replicate, List.append_assoc, List.replicate_append_replicate]
  congr 2
  omega
def notB (b : Nat) (x : PD) : Bool := !(x.1 == b)
theorem filter_all {l : List PD} (h : ∀ x ∈ l, x.1 ≠ b) : l.filter (notB b) = l := List.filter_eq_self.2 fun x hx => by simp [notB, h x hx]
def DS.forget (D : DS) (b : Nat) : DS := { D with pends := D.pends.filter (notB b) }
theorem keepF_b {i : Nat} {s : Bs} {n : Int} : (keepF f i s n).b = f.b ∧ (keepF f i s n).name = f.name ∧ (keepF f i s n).now = f.now := by
  unfold keepF; split <;> exact ⟨rfl, rfl, rfl⟩
def keepAll (f : FA) (l : List PD) : FA := l.foldl (fun g x => if x.1 = f.b then keepF g x.2.1 x.2.2 64 else g) f
theorem keepAll_snoc {l : List PD} {x : PD} : keepAll f (l ++ [x]) = if x.1 = f.b then keepF (keepAll f l) x.2.1 x.2.2 64 else keepAll f l := by simp [keepAll]
theorem keepAll_b (l : List PD) : (keepAll f l).b = f.b ∧ (keepAll f l).name = f.name ∧ (keepAll f l).now = f.now := by
  have : ∀ (l : List PD) (g : FA), (l.foldl (fun g x => if x.1 = f.b then keepF g x.2.1 x.2.2 64 else g) g).b = g.b ∧ (l.foldl (fun g x => if x.1 = f.b then keepF g x.2.1 x.2.2 64 else g) g).name = g.name ∧ (l.foldl (fun g x => if x.1 = f.b then keepF g x.2.1 x.2.2 64 else g) g).now = g.now := by
    intro l
    induction l with
    | nil => intro g; exact ⟨rfl, rfl, rfl⟩
    | cons x l ih =>
      intro g
      simp only [List.foldl_cons]
      have h := ih (if x.1 = f.b then keepF g x.2.1 x.2.2 64 else g)
      by_cases hx : x.1 = f.b
      · simp only [hx, if_true] at h ⊢
        obtain ⟨k1, k2, k3⟩ := @keepF_b g x.2.1 x.2.2 64
        rw [k1, k2, k3] at h; exact h
      · simp only [hx, if_false] at h ⊢; exact h
  exact this l f
def DS.sync (D : DS) (s : Bs) : Int × DS :=
  if D.off then (50, D) else match D.find s with
  | none => (4, D)
  | some f => if D.deed.1 = 0 then (0, { D.deed.2 with files := upF D.files (keepAll f D.pends), pends := D.pends.filter (notB f.b) }) else D.deed
/-- Delete -/
def DS.delete (D : DS) (s : Bs) : Int × DS :=
  if D.off then (50, D) else match D.find s with
  | none => (4, D)
  | some f => if D.deed.1 = 0 then (0, { D.deed.2 with files := D.files.filter (fun g => !(g.b == f.b)), pends := D.pends.filter (notB f.b) }) else D.deed
end Go.Dsk

/- Journals: rows of edits, what they say; what is torn. The plain law. -/
namespace Go.Man
open Go.Page Go.Dsk
open Go.Ab (splice)
set_option linter.unusedVariables false
set_option linter.unusedSimpArgs false
abbrev Bs := List UInt8

/-- Edits, what they are as bytes, what they make. -/
structure Jr where
  E : Type
  S : Type
  enc : E → Bs
  dec : Bs → Option E
  emp : S
  app : S → E → Option S
  eds : S → List E
  dec_enc : ∀ (s s' : S) (e : E), app s e = some s' → dec (enc e) = some e

variable {J : Jr}
def sz (J : Jr) (e : J.E) : Nat := max 1 (((J.enc e).length + 41) / 42)
theorem sz_row {e : J.E} {t : Nat} : (row t (J.enc e)).length = sz J e := row_len _ _ _ (Nat.le_refl _)
def szs (J : Jr) (es : List J.E) : Nat := (es.map (sz J)).sum
def rows (J : Jr) : List J.E → Nat → List Bs
  | [], _ => []
  | e :: es, t => row t (J.enc e) ++ rows J es (t + sz J e)
theorem rows_len : ∀ {es : List J.E} {t : Nat}, (rows J es t).length = szs J es
  | [], t => rfl
  | e :: es, t => by simp only [rows, List.length_append, sz_row, rows_len, szs, List.map_cons, List.sum_cons]
theorem rows_append : ∀ {a b : List J.E} {t : Nat}, rows J (a ++ b) t = rows J a t ++ rows J b (t + szs J a)
  | [], b, t => rfl
  | e :: a, b, t => by
    simp only [List.cons_append, rows, rows_append, List.append_assoc, szs, List.map_cons, List.sum_cons]
    congr 3; omega
theorem rows_one {e : J.E} {t : Nat} : rows J [e] t = row t (J.enc e) := by simp [rows]
def says (J : Jr) : Nat → List Bs → Nat → J.S → J.S
  | 0, _, _, s => s
  | n + 1, l, t, s => match unrow l t with
    | none => s
    | some (b, k) => match J.dec b with
      | none => s
      | some e => match J.app s e with
        | none => s
        | some s' => says J n (l.drop k) (t + k) s'
def saysL (J : Jr) (l : List Bs) : J.S := says J l.length l 1 J.emp
/-! What is torn. -/
theorem mix_len {s r : Bs} {n : Nat} : (mixS s r n).length = 64 := by simp [mixS]
theorem mix_get {s r : Bs} {n i : Nat} (hi : i < 64) : (mixS s r n)[i]? = some (if i < n then s.getD i 0 else r.getD i 0) := by
  unfold mixS
  rw [List.getElem?_map, List.getElem?_range hi]; rfl
/-- What may be left of pages. -/
def Torn (pages rest : List Bs) : Prop := rest.length ≤ pages.length ∧ ∀ (i : Nat) (r : Bs), rest[i]? = some r → r = [] ∨ ∃ p n, pages[i]? = some p ∧ r = mixS p [] n
theorem Torn.nil {pages : List Bs} : Torn pages [] := ⟨by simp, by simp⟩
end Go.Man

/- Journals on a disk: what a crash leaves. The plain law. -/
namespace Go.Man
open Go.Page Go.Dsk
open Go.Ab (splice)
set_option linter.unusedVariables false
set_option linter.unusedSimpArgs false

/-! A crash, file by file. -/
def fcStep (b : Nat) (g : FA) (x : PD × Int) : FA := if x.1.1 = b then keepF g x.1.2.1 x.1.2.2 x.2 else g
def fc (f : FA) (L : List (PD × Int)) : FA := L.foldl (fcStep f.b) f
def after (D : DS) (keep : List Int) (f : FA) : FA := { fc f (D.pends.zip keep) with now := (fc f (D.pends.zip keep)).safe }
/-- Pages one behind the other, pending. -/
def pendsOf (b : Nat) : Nat → List Bs → List PD
  | _, [] => []
  | i, p :: l => (b, i, p) :: pendsOf b (i + 1) l
theorem pendsOf_snoc {b : Nat} : ∀ {l : List Bs} {i : Nat} {p : Bs}, pendsOf b i (l ++ [p]) = pendsOf b i l ++ [(b, i + l.length, p)]
  | [], i, p => by simp [pendsOf]
  | x :: l, i, p => by
    simp only [List.cons_append, pendsOf, pendsOf_snoc, List.length_cons]
    rw [show i + 1 + l.length = i + (l.length + 1) by omega]
theorem pendsOf_b {b : Nat} : ∀ {l : List Bs} {i : Nat} {x : PD}, x ∈ pendsOf b i l → x.1 = b ∧ i ≤ x.2.1 ∧ x.2.1 < i + l.length
  | [], i, x, h => by cases h
  | p :: l, i, x, h => by
    rcases List.mem_cons.1 h with rfl | h
    · simp
    · have := pendsOf_b h
      simp only [List.length_cons]
      exact ⟨this.1, by omega, by omega⟩
theorem Torn.mono {pages rest : List Bs} {i : Nat} (h : Torn (pages.take i) rest) : Torn pages rest := by
  refine ⟨Nat.le_trans h.1 (by simp; omega), fun k r hr => ?_⟩
  rcases h.2 k r hr with h | ⟨p, n, h1, h2⟩
  · exact .inl h
  · refine .inr ⟨p, n, ?_, h2⟩
    rw [List.getElem?_take] at h1
    split at h1
    · exact h1
    · cases h1
theorem Torn.take {pages rest : List Bs} {i j : Nat} (h : Torn (pages.take i) rest) (hij : i ≤ j) : Torn (pages.take j) rest := by
  have : pages.take i = (pages.take j).take i := by rw [List.take_take, Nat.min_eq_left hij]
  rw [this] at h
  exact h.mono
/-! The two files. -/
abbrev nJ : Bs := [106, 111, 117, 114, 110, 97, 108]
abbrev nN : Bs := [106, 111, 117, 114, 110, 97, 108, 46, 110, 101, 119]
structure DOk (D : DS) : Prop where
  names : (D.files.map (·.name)).Nodup
  blocks : (D.files.map (·.b)).Nodup
  pfile : ∀ x ∈ D.pends, ∃ f ∈ D.files, f.b = x.1 ∧ x.2.1 < f.now.length
  safe : ∀ f ∈ D.files, f.safe.length ≤ f.now.length
variable {J : Jr}
/-- The journal is whole, and says s; all else may go. -/
structure Mid (J : Jr) (fs : List FA) (ps : List PD) (s : J.S) : Prop where
  names : ∀ f ∈ fs, f.name = nJ ∨ f.name = nN
  jour : ∀ f ∈ fs, f.name = nJ → f.now = f.safe ∧ (∀ x ∈ ps, x.1 ≠ f.b) ∧ saysL J (f.now.map pad) = s
  none : (∀ f ∈ fs, f.name ≠ nJ) → s = J.emp
  big : ∀ f ∈ fs, f.now.length ≤ 4000
/-- A commit that is going on: so many pages of the row are written. -/
structure Mid2 (J : Jr) (fs : List FA) (ps : List PD) (es : List J.E) (e : J.E) (m : Nat) : Prop where
  only : ∃ f, fs = [f] ∧ f.name = nJ ∧ f.safe = rows J es 1 ∧ f.now = rows J es 1 ++ (row (1 + szs J es) (J.enc e)).take m ∧ ps = pendsOf f.b (rows J es 1).length ((row (1 + szs J es) (J.enc e)).take m)
end Go.Man

/- Journals on a disk: step by step. The plain law. -/
namespace Go.Man
open Go.Page Go.Dsk
open Go.Ab (splice)
set_option linter.unusedVariables false
set_option linter.unusedSimpArgs false

abbrev cut (D : DS) : DS := { D with off := true }
variable {J : Jr} {D : DS} {s : J.S} {es : List J.E} {e : J.E} {t : Bs} {b : Nat} {f : FA}

theorem find_iff : D.find t = some f → f ∈ D.files ∧ f.name = t := by
  intro h
  exact ⟨List.mem_of_find?_eq_some h, by have := List.find?_some h; simpa using this⟩
theorem find_of (hn : (D.files.map (·.name)).Nodup) (hf : f ∈ D.files) : D.find f.name = some f := by
  cases h : D.find f.name with
  | none =>
    have := List.find?_eq_none.1 h f hf
    simp at this
  | some g =>
    obtain ⟨h1, h2⟩ := find_iff h
    rw [uniq_n hn h1 hf h2]
section
variable (O : DOk D) (M : Mid J D.files D.pends s)
include O M
omit O in
theorem Mid.create : Mid J (D.files ++ [mkF b nN]) D.pends s := by
  refine ⟨fun g hg => ?_, fun g hg hn => ?_, fun h => M.none fun g hg hn => h g (by simp [hg]) hn, fun g hg => ?_⟩
  · rcases List.mem_append.1 hg with hg | hg
    · exact M.names g hg
    · simp at hg; subst hg; exact .inr rfl
  · rcases List.mem_append.1 hg with hg | hg
    · exact M.jour g hg hn
    · simp at hg; subst hg; exact absurd (show nN = nJ from hn) (by decide)
  · rcases List.mem_append.1 hg with hg | hg
    · exact M.big g hg
    · simp at hg; subst hg; simp [mkF]
theorem Mid.append {p : Bs} (hf : D.find nN = some f) (hl : f.now.length < 4000) : Mid J (upF D.files { f with now := f.now ++ [p] }) (D.pends ++ [(f.b, f.now.length, p)]) s := by
  obtain ⟨h1, h2⟩ := find_iff hf
  have back : ∀ g ∈ upF D.files { f with now := f.now ++ [p] }, g.name = nJ → g ∈ D.files ∧ g.b ≠ f.b := fun g hg hn => by
    rcases upF_mem hg with rfl | h
    · exact absurd (h2.symm.trans hn) (by decide)
    · exact h
  refine ⟨fun g hg => ?_, fun g hg hn => ?_, fun h => M.none fun g hg hn => h g ?_ hn, fun g hg => ?_⟩
  · rcases upF_mem hg with rfl | h
    · exact .inr h2
    · exact M.names g h.1
  · obtain ⟨hg, hb⟩ := back g hg hn
    obtain ⟨a, c, d⟩ := M.jour g hg hn
    refine ⟨a, fun x hx => ?_, d⟩
    rcases List.mem_append.1 hx with hx | hx
    · exact c x hx
    · simp at hx; subst hx; exact fun h => hb h.symm
  · unfold upF
    refine List.mem_map.2 ⟨g, hg, if_neg fun hb => ?_⟩
    have := uniq_b O.blocks hg h1 hb
    subst this
    exact absurd (h2.symm.trans hn) (by decide)
  · rcases upF_mem hg with rfl | h
    · show (f.now ++ [p]).length ≤ 4000
      rw [List.length_append]; simp; omega
    · exact M.big g h.1
theorem Mid.sync (hf : D.find nN = some f) : Mid J (upF D.files (keepAll f D.pends)) (D.pends.filter (notB f.b)) s := by
  obtain ⟨h1, h2⟩ := find_iff hf
  obtain ⟨k1, k2, k3⟩ := keepAll_b (f := f) D.pends
  refine ⟨fun g hg => ?_, fun g hg hn => ?_, fun h => M.none fun g hg hn => h g ?_ hn, fun g hg => ?_⟩
  · rcases upF_mem hg with rfl | h
    · exact .inr (k2.trans h2)
    · exact M.names g h.1
  · rcases upF_mem hg with rfl | h
    · exact absurd ((k2.trans h2).symm.trans hn) (by decide)
    · obtain ⟨a, c, d⟩ := M.jour g h.1 hn
      exact ⟨a, fun x hx => c x (List.mem_filter.1 hx).1, d⟩
  · unfold upF
    refine List.mem_map.2 ⟨g, hg, if_neg fun hb => ?_⟩
    rw [k1] at hb
    have := uniq_b O.blocks hg h1 hb
    subst this
    exact absurd (h2.symm.trans hn) (by decide)
  · rcases upF_mem hg with rfl | h
    · rw [k3]; exact M.big f h1
    · exact M.big g h.1
end

/-- The new file: so many pages are in it, all of them pending. -/
def Fr (D : DS) (l : List Bs) : Prop := ∃ f, D.find nN = some f ∧ f.now = l ∧ f.safe = [] ∧ D.pends = pendsOf f.b 0 l
/-- .. all of them kept. -/
def Fs (D : DS) (l : List Bs) : Prop := ∃ f, D.find nN = some f ∧ f.now = l ∧ f.safe = l ∧ D.pends = []
theorem find_upF {f' : FA} (O : DOk D) (hf : D.find t = some f) (hb : f'.b = f.b) (hn : f'.name = f.name) (D' : DS) (hD : D'.files = upF D.files f') : D'.find t = some f' := by
  obtain ⟨h1, h2⟩ := find_iff hf
  have hnames : (D'.files.map (·.name)).Nodup := by
    have : D'.files.map (·.name) = D.files.map (·.name) := by
      rw [hD]; unfold upF
      rw [List.map_map]
      refine List.map_congr_left fun g hg => ?_
      simp only [Function.comp_def]
      split
      · rename_i hgb
        have := uniq_b O.blocks hg h1 (hgb.trans hb)
        rw [this, hn]
      · rfl
    rw [this]; exact O.names
  have hm : f' ∈ D'.files := by
    rw [hD]; unfold upF
    exact List.mem_map.2 ⟨f, h1, if_pos hb.symm⟩
  have := find_of hnames hm
  rwa [hn, h2] at this
theorem Fr.start (hf : D.find nN = none) (hp : D.pends = []) {n : Int} : Fr { D with left := n, files := D.files ++ [mkF b nN] } [] := by
  refine ⟨mkF b nN, ?_, rfl, rfl, hp⟩
  show (D.files ++ [mkF b nN]).find? _ = _
  rw [List.find?_append]
  have : D.files.find? (fun f => f.name == nN) = none := hf
  rw [this]; rfl
theorem Fr.append {l : List Bs} {p : Bs} {n : Int} (O : DOk D) (hf : D.find nN = some f) (h : Fr D l) : f.now.length = l.length ∧ Fr { D with left := n, files := upF D.files { f with now := f.now ++ [p] }, pends := D.pends ++ [(f.b, f.now.length, p)] } (l ++ [p]) := by
  obtain ⟨f0, h0, h1, h2, h3⟩ := h
  rw [hf] at h0; cases h0
  refine ⟨by rw [h1], { f with now := f.now ++ [p] }, find_upF (f' := { f with now := f.now ++ [p] }) O hf rfl rfl _ rfl, by show f.now ++ [p] = _; rw [h1], h2, ?_⟩
  show D.pends ++ [(f.b, f.now.length, p)] = _
  rw [h3, pendsOf_snoc, h1, Nat.zero_add]
theorem mix_full {p r : Bs} (hp : p.length = 64) : mixS p r 64 = p := by
  apply List.ext_getElem?
  intro i
  by_cases hi : i < 64
  · rw [mix_get hi, if_pos hi, List.getD_eq_getElem?_getD, List.getElem?_eq_getElem (by omega)]; rfl
  · rw [List.getElem?_eq_none (by rw [mix_len]; omega), List.getElem?_eq_none (by omega)]
theorem keepAll_pends {base : List Bs} : ∀ {l : List Bs} {f : FA}, f.safe = base → (∀ p ∈ l, p.length = 64) → (keepAll f (pendsOf f.b base.length l)).safe = base ++ l := by
  intro l
  induction l using Go.Num.snoc_ind with
  | h0 => intro f hf _; simpa [pendsOf, keepAll] using hf
  | h1 l p ih =>
    intro f hf hl
    have ih := ih hf fun q hq => hl q (by simp [hq])
    rw [pendsOf_snoc, keepAll_snoc, if_pos rfl]
    unfold keepF
    rw [if_neg (by omega)]
    simp only
    rw [ih]
    have e : padTo (base ++ l) (base.length + l.length + 1) = base ++ l ++ [[]] := by
      unfold padTo
      rw [List.length_append, show base.length + l.length + 1 - (base.length + l.length) = 1 by omega]; rfl
    rw [e, show (min (64 : Int) 64).toNat = 64 by decide, mix_full (hl p (by simp)), List.set_append_right _ _ (by simp), List.length_append]
    simp
theorem notB_all {l : List Bs} {b i : Nat} : (pendsOf b i l).filter (notB b) = [] := by
  rw [List.filter_eq_nil_iff]
  intro x hx
  have := (pendsOf_b hx).1
  simp [notB, this]
theorem Fr.sync {l : List Bs} {n : Int} (O : DOk D) (hf : D.find nN = some f) (h : Fr D l) (hl : ∀ p ∈ l, p.length = 64) : Fs { D with left := n, files := upF D.files (keepAll f D.pends), pends := D.pends.filter (notB f.b) } l := by
  obtain ⟨f0, h0, h1, h2, h3⟩ := h
  rw [hf] at h0; cases h0
  obtain ⟨k1, k2, k3⟩ := keepAll_b (f := f) D.pends
  refine ⟨keepAll f D.pends, find_upF O hf k1 k2 _ rfl, k3.trans h1, ?_, ?_⟩
  · rw [h3]
    have := keepAll_pends (base := []) (l := l) h2 hl
    simpa using this
  · show D.pends.filter _ = []
    rw [h3]; exact notB_all
/-- A journal that lies there whole. -/
def Idle (J : Jr) (D : DS) (es : List J.E) : Prop := ∃ f, D.files = [f] ∧ f.name = nJ ∧ f.now = rows J es 1 ∧ f.safe = rows J es 1 ∧ D.pends = []
theorem Mid2.find {m : Nat} (M : Mid2 J D.files D.pends es e m) : ∃ f, D.find nJ = some f ∧ f.now.length ≤ szs J es + sz J e ∧ D.used = f.now.length := by
  obtain ⟨f, h1, h2, h3, h4, h5⟩ := M.only
  refine ⟨f, ?_, ?_, ?_⟩
  · unfold DS.find; rw [h1]; simp [h2]
  · rw [h4, List.length_append, rows_len, List.length_take, sz_row]; omega
  · unfold DS.used; rw [h1]; simp
theorem Mid2.append {m : Nat} {p : Bs} (M : Mid2 J D.files D.pends es e m) (hf : D.find nJ = some f) (hp : (row (1 + szs J es) (J.enc e))[m]? = some p) :
    Mid2 J (upF D.files { f with now := f.now ++ [p] }) (D.pends ++ [(f.b, f.now.length, p)]) es e (m + 1) := by
  obtain ⟨f0, h1, h2, h3, h4, h5⟩ := M.only
  have : D.find nJ = some f0 := by unfold DS.find; rw [h1]; simp [h2]
  rw [hf] at this; cases this
  have hm := (List.getElem?_eq_some_iff.1 hp).1
  refine ⟨{ f with now := f.now ++ [p] }, by rw [h1]; simp [upF], h2, h3, ?_, ?_⟩
  · show f.now ++ [p] = _
    rw [h4, List.take_add_one, hp, List.append_assoc]; rfl
  · rw [List.take_add_one, hp, h5]
    show _ = pendsOf f.b _ (_ ++ [p])
    rw [pendsOf_snoc, h4, List.length_append]
theorem Mid2.sync {n : Int} (O : DOk D) (M : Mid2 J D.files D.pends es e (sz J e)) (hf : D.find nJ = some f) : Idle J { D with left := n, files := upF D.files (keepAll f D.pends), pends := D.pends.filter (notB f.b) } (es ++ [e]) := by
  obtain ⟨f0, h1, h2, h3, h4, h5⟩ := M.only
  have : D.find nJ = some f0 := by unfold DS.find; rw [h1]; simp [h2]
  rw [hf] at this; cases this
  obtain ⟨k1, k2, k3⟩ := keepAll_b (f := f) D.pends
  have ht : (row (1 + szs J es) (J.enc e)).take (sz J e) = row (1 + szs J es) (J.enc e) := List.take_of_length_le (by rw [sz_row]; omega)
  rw [ht] at h4 h5
  have er : rows J (es ++ [e]) 1 = rows J es 1 ++ row (1 + szs J es) (J.enc e) := by rw [rows_append, rows_one]
  refine ⟨keepAll f D.pends, by rw [h1]; simp [upF, k1], k2.trans h2, by rw [k3, h4, er], ?_, ?_⟩
  · rw [h5, er]
    exact keepAll_pends h3 fun p hp => by
      obtain ⟨i, hi⟩ := List.getElem?_of_mem hp
      exact (row_get _ _ _ (Nat.le_refl _) i p hi).2
  · show D.pends.filter _ = []
    rw [h5]; exact notB_all
end Go.Man

/- Many sectors written behind a file, one by one; the deeds of a disk that has power and room. -/
namespace Go.Dsk
open Go.Man (pendsOf pendsOf_snoc keepAll_pends notB_all find_of pendsOf_b)
set_option linter.unusedVariables false
set_option linter.unusedSimpArgs false
section
variable {D : DS} {f : FA} {b : Nat} {s : Bs}
/-- Sectors appended one by one, up to the first that is refused. -/
def appAll (s : Bs) : List Bs → DS → Int × DS
  | [], D => (0, D)
  | x :: l, D => if (D.append s x).1 = 0 then appAll s l (D.append s x).2 else D.append s x
/-- A file is made, sectors are appended, and it is kept. -/
def DS.wr (D : DS) (s : Bs) (S : List Bs) (b : Nat) : Int × DS :=
  if (D.create s b).1 = 0 then
    if (appAll s S (D.create s b).2).1 = 0 then (appAll s S (D.create s b).2).2.sync s else appAll s S (D.create s b).2
  else D.create s b
end
end Go.Dsk
