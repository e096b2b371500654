/- Chapter 5: hands with their suits exchanged. -/
import Derived.Test.YtgellkpbcoeccaaDoorSu3
namespace Go.Proofs.YtgellkpbcoeccaaDoor
open Go Go.Ev Go.Ev.Bits

def getN : List Nat → Nat → Nat
  | [], _ => 0
  | x :: _, 0 => x
  | _ :: l, i + 1 => getN l i
def dropN : List Nat → Nat → List Nat
  | [], _ => []
  | _ :: l, 0 => l
  | x :: l, i + 1 => x :: dropN l i
/-- Where the suits 0, 1, 2, 3 come to. -/
def perm (w : Nat) : N4 :=
  let l3 := [0, 1, 2, 3]; let k3 := w % 4; let n2 := w / 4
  let l2 := dropN l3 k3; let k2 := n2 % 3; let n1 := n2 / 3
  let l1 := dropN l2 k2; let k1 := n1 % 2
  let l0 := dropN l1 k1
  (getN l0 0, getN l1 k1, getN l2 k2, getN l3 k3)
theorem perm_mem : ∀ w, w < 24 → perm w ∈ P24 := forall_lt 24 (by decide +kernel)
def or64 (a b : Int) : Int := IntKind.u64.wrap ↑(BitVec.ofInt IntKind.u64.bits a ||| BitVec.ofInt IntKind.u64.bits b).toNat
def shI (m : Int) (s p : Nat) : Int := IntKind.u64.wrap (IntKind.u64.wrap ↑(BitVec.ofInt IntKind.u64.bits (m.fdiv (2 ^ min (13 * s) IntKind.u64.bits)) &&& BitVec.ofInt IntKind.u64.bits 8191).toNat * 2 ^ min (13 * p) IntKind.u64.bits)
def turnI (m : Int) (p : N4) : Int := or64 (or64 (or64 (or64 0 (shI m 3 p.2.2.2)) (shI m 2 p.2.2.1)) (shI m 1 p.2.1)) (shI m 0 p.1)
theorem t15_0 (m : Int) : (List.range 32).map (fun w => callsM C6 noZ 60 15 [.int .u64 m, .int .u8 ((w + 0 : Nat) : Int)]) = (List.range 32).map (fun w => some (.int .u64 (turnI m (perm ((w + 0) % 24))))) := by kernel_rfl
theorem t15_1 (m : Int) : (List.range 32).map (fun w => callsM C6 noZ 60 15 [.int .u64 m, .int .u8 ((w + 32 : Nat) : Int)]) = (List.range 32).map (fun w => some (.int .u64 (turnI m (perm ((w + 32) % 24))))) := by kernel_rfl
theorem t15_2 (m : Int) : (List.range 32).map (fun w => callsM C6 noZ 60 15 [.int .u64 m, .int .u8 ((w + 64 : Nat) : Int)]) = (List.range 32).map (fun w => some (.int .u64 (turnI m (perm ((w + 64) % 24))))) := by kernel_rfl
theorem t15_3 (m : Int) : (List.range 32).map (fun w => callsM C6 noZ 60 15 [.int .u64 m, .int .u8 ((w + 96 : Nat) : Int)]) = (List.range 32).map (fun w => some (.int .u64 (turnI m (perm ((w + 96) % 24))))) := by kernel_rfl
theorem t15_4 (m : Int) : (List.range 32).map (fun w => callsM C6 noZ 60 15 [.int .u64 m, .int .u8 ((w + 128 : Nat) : Int)]) = (List.range 32).map (fun w => some (.int .u64 (turnI m (perm ((w + 128) % 24))))) := by kernel_rfl
theorem t15_5 (m : Int) : (List.range 32).map (fun w => callsM C6 noZ 60 15 [.int .u64 m, .int .u8 ((w + 160 : Nat) : Int)]) = (List.range 32).map (fun w => some (.int .u64 (turnI m (perm ((w + 160) % 24))))) := by kernel_rfl
theorem t15_6 (m : Int) : (List.range 32).map (fun w => callsM C6 noZ 60 15 [.int .u64 m, .int .u8 ((w + 192 : Nat) : Int)]) = (List.range 32).map (fun w => some (.int .u64 (turnI m (perm ((w + 192) % 24))))) := by kernel_rfl
theorem t15_7 (m : Int) : (List.range 32).map (fun w => callsM C6 noZ 60 15 [.int .u64 m, .int .u8 ((w + 224 : Nat) : Int)]) = (List.range 32).map (fun w => some (.int .u64 (turnI m (perm ((w + 224) % 24))))) := by kernel_rfl
end Go.Proofs.YtgellkpbcoeccaaDoor
