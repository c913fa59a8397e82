/- slices.Sorted(maps.Keys(m)) at a map whose keys are texts: what it hands back. Definitions. -/
import Derived.Test.YtceplmmmlindnaaCEv5
namespace Go.Ab
/-- The keys of a map, if they are texts. -/
def keyStrs : List (AV × AV × Nat) → Option (List (List UInt8))
  | [] => some []
  | (.str s, _, _) :: es => (match keyStrs es with | some l => some (s :: l) | none => none)
  | _ => none
def insStr (s : List UInt8) : List (List UInt8) → (List (List UInt8) → Bool) → Bool
  | [], k => k [s]
  | t :: l, k => match bytesLess t s with
    | true => insStr s l fun r => k (t :: r)
    | false => k (s :: t :: l)
def sortStr : List (List UInt8) → (List (List UInt8) → Bool) → Bool
  | [], k => k []
  | s :: l, k => sortStr l fun r => insStr s r k
def strAVs : List (List UInt8) → (List AV → Bool) → Bool
  | [], k => k []
  | s :: l, k => strAVs l fun r => k (.str s :: r)
def eKeys (g : FuncId) (args : List AV) (h : EH) (k : AV → EH → Bool) : Bool :=
  match args with
  | [.map m] => eNewB (.bx (.map m)) h fun b h' => k (.func (.func g) [] [.ptr (some ⟨b, 0⟩)]) h'
  | _ => false
def leS (a b : List UInt8) : Bool := decide (a ≤ b)
def pwB : List (List UInt8) → Bool
  | [] => true
  | x :: l => l.all (leS x) && pwB l
/-- Sorted of the iterator g over the map that its block holds. -/
def eSorted (gs : List FuncId) (args : List AV) (h : EH) (k : AV → EH → Bool) : Bool :=
  match args with
  | [.func (.func f) [] [.ptr (some p)]] => (gs.contains f && Nat.beq p.o 0) && (match h.t.get p.b with
    | some (.bx (.map (some m))) => (match h.t.get m with
      | some (.mp es cl) => (match keyStrs es with
        | some ss => sortStr ss fun ss' => (ss'.isPerm ss && pwB ss' && decide ss.Nodup && decide (es.map (·.2.2)).Nodup && (es.all fun e => Nat.blt e.2.2 cl) && Nat.ble ss.length 1000000 && ss.all fun s => Nat.ble s.length 1000000) && (match ss' with
          | [] => k (.sl none) h
          | s :: l => strAVs (s :: l) fun c => eNew c true h fun b h' => fN (s :: l).length fun n => k (.sl (some ⟨b, 0, n, n, 1⟩)) h')
        | none => false)
      | _ => false)
    | _ => false)
  | _ => false
def ovKS (keys : List (FuncId × FuncId)) (sorted : FuncId) : Ovr := fun f =>
  match f == sorted with
  | true => some (eSorted (keys.map (·.2)))
  | false => match keys.find? (fun x => x.1 == f) with | some (_, g) => some (eKeys g) | none => none
end Go.Ab
