/- Chapter 5: HandSuits: the rounds over all orders. -/
import Derived.Test.YtgellkpbcoeccaaDoorSu1
import Derived.Test.YtgellkpbcoeccaaDoorA2
namespace Go.Proofs.YtgellkpbcoeccaaDoor
open Go Go.Ev Go.Ev.Bits

abbrev N4 := Nat × Nat × Nat × Nat
def P24 : List N4 := [(0, 1, 2, 3), (0, 1, 3, 2), (0, 2, 1, 3), (0, 2, 3, 1), (0, 3, 1, 2), (0, 3, 2, 1), (1, 0, 2, 3), (1, 0, 3, 2), (1, 2, 0, 3), (1, 2, 3, 0), (1, 3, 0, 2), (1, 3, 2, 0), (2, 0, 1, 3), (2, 0, 3, 1), (2, 1, 0, 3), (2, 1, 3, 0), (2, 3, 0, 1), (2, 3, 1, 0), (3, 0, 1, 2), (3, 0, 2, 1), (3, 1, 0, 2), (3, 1, 2, 0), (3, 2, 0, 1), (3, 2, 1, 0)]
def lsel (l0 l1 l2 l3 : Int) : Nat → Int
  | 0 => l0
  | 1 => l1
  | 2 => l2
  | _ => l3
def orI (met : Int) (s : Nat) : Int := IntKind.i64.wrap ↑(BitVec.ofInt IntKind.i64.bits met ||| BitVec.ofInt IntKind.i64.bits (IntKind.i64.wrap (1 * 2 ^ min s IntKind.i64.bits))).toNat
def ch (l : Int) : UInt8 := UInt8.ofNat (IntKind.u8.wrap (IntKind.i64.wrap (48 + l.tmod 10))).toNat
def tA (tx : List UInt8) (l : Int) : List UInt8 := bif decide (l > 9) then tx ++ [49] else tx
def ble1 (tx : List UInt8) (k : Option (X × List AV × Heap)) : Option (X × List AV × Heap) := bif Nat.ble (tx.length + 1) 9223372036854775807 then k else none
section
variable (n : Nat) (l0 l1 l2 l3 met : Int) (tx : List UInt8)
abbrev fp9 (p : N4) (met : Int) (tx : List UInt8) (i : Int) : List AV := fr9 n p.1 p.2.1 p.2.2.1 p.2.2.2 met tx i
abbrev Hp9 (p : N4) : Heap := H9 l0 l1 l2 l3 p.1 p.2.1 p.2.2.1 p.2.2.2
def nx9 (p : N4) (s : Nat) (i : Int) (tx : List UInt8) : Option (X × List AV × Heap) :=
  ble1 tx (ble1 (tA tx (lsel l0 l1 l2 l3 s)) (some (.n, fp9 n p (orI met s) (tA tx (lsel l0 l1 l2 l3 s) ++ [ch (lsel l0 l1 l2 l3 s)]) i, Hp9 l0 l1 l2 l3 p)))
def nc9 (p : N4) (s q : Nat) (i : Int) : Option (X × List AV × Heap) :=
  bif decide (lsel l0 l1 l2 l3 s > lsel l0 l1 l2 l3 q) then none else bif lsel l0 l1 l2 l3 s == lsel l0 l1 l2 l3 q then bif Nat.ble (q + 1) s then none else ble1 tx (nx9 n l0 l1 l2 l3 met p s i (tx ++ [45])) else ble1 tx (nx9 n l0 l1 l2 l3 met p s i (tx ++ [45]))
theorem r9_0 : P24.map (fun p => codeG C6 Z9 60 9 kp9 ct9 isN m9 bod9_0 (fp9 n p met tx 0) (Hp9 l0 l1 l2 l3 p) 2) = P24.map (fun p => nx9 n l0 l1 l2 l3 met p p.1 1 tx) := by kernel_rfl
theorem r9_1 : P24.map (fun p => codeG C6 Z9 60 9 kp9 ct9 isN m9 bod9_0 (fp9 n p met tx 1) (Hp9 l0 l1 l2 l3 p) 2) = P24.map (fun p => nc9 n l0 l1 l2 l3 met tx p p.2.1 p.1 2) := by kernel_rfl
theorem r9_2 : P24.map (fun p => codeG C6 Z9 60 9 kp9 ct9 isN m9 bod9_0 (fp9 n p met tx 2) (Hp9 l0 l1 l2 l3 p) 2) = P24.map (fun p => nc9 n l0 l1 l2 l3 met tx p p.2.2.1 p.2.1 3) := by kernel_rfl
theorem r9_3 : P24.map (fun p => codeG C6 Z9 60 9 kp9 ct9 isN m9 bod9_0 (fp9 n p met tx 3) (Hp9 l0 l1 l2 l3 p) 2) = P24.map (fun p => nc9 n l0 l1 l2 l3 met tx p p.2.2.2 p.2.2.1 4) := by kernel_rfl
theorem r9_4 (p : N4) : codeG C6 Z9 60 9 kp9 ct9 isEx m9 bod9_0 (fp9 n p met tx 4) (Hp9 l0 l1 l2 l3 p) 2 = some (.ex 0, fp9 n p met tx 4, Hp9 l0 l1 l2 l3 p) := by kernel_rfl
end
end Go.Proofs.YtgellkpbcoeccaaDoor
