/- Chapter 17: the parts of a score: what the law comes to. -/
import Derived.Test.YtfkpbchdapccmaaDoorPc
namespace Go.Proofs.YtfkpbchdapccmaaDoor
open Go Go.Ev

def each (v : Bool) (k : Nat) : Int := bif v then (bif Nat.beq k 1 then 200 else 300) else bif Nat.beq k 1 then 100 else bif Nat.beq k 2 || Nat.beq k 3 then 200 else 300
/-- The missing tricks, one more each round. -/
def pLoop (a b d : Int) (v : Bool) : Nat → Nat → Int → Option AV
  | 0, _, _ => bif right a b 1 d then yes else none
  | m + 1, k, last => bif right a b 1 d then bif right a b 1 d then bif conB a b 1 d then
      bif !(ptsE a b 1 d (6 + a - k) == 0) then no else bif pts a b 1 d (6 + a - k) v != IntKind.i64.wrap (last - each v k) then no else pLoop a b d v m (k + 1) (pts a b 1 d (6 + a - k) v)
      else none else none else none
def gAt (b : Int) : AV := ([.int .u8 5, .int .u8 5, .int .u8 4, .int .u8 4, .int .u8 3] : List AV).getD (b.toNat * 1) .undef
def pCmp (a b d t : Int) (v : Bool) (bonus : Int) : Option AV :=
  bif !(ptsE a b 0 d t == 0) then no else bif !(ptsE (a - 1) b 0 d t == 0) then no else bif pts a b 0 d t v != IntKind.i64.wrap (pts (a - 1) b 0 d t v + bonus) then no else pLoop a b d v (6 + a).toNat 1 0
def pIf (a b d t : Int) (v : Bool) : Option AV :=
  bif conB a b 0 d then bif conB (a - 1) b 0 d then
    bif true && true && leI 0 b && decide (b < 5) then bif true && Nat.ble (b.toNat * 1 + 1) 5 then bif (gAt b).isI .u8 then
      bif a == (gAt b).toI then pCmp a b d t v (bif v then 450 else 250) else pCmp a b d t v 0
    else none else none else none
  else none else none
def pTree (a b r d t : Int) (v : Bool) : Option AV :=
  bif right a b r d then bif decide (t ≥ 6 + a) then (bif a == 6 || a == 7 then pLoop a b d v (6 + a).toNat 1 0 else pIf a b d t v) else pLoop a b d v (6 + a).toNat 1 0 else none
def Parts (a : Int) (v : Bool) : Prop := ∀ n : Int, (calls (Cp a) 60 8 [.int .u32 n, .bool v]).run = bif u32B n && mA n == a then pTree a (mB n) (mR n) (mD n) (mT n) v else none
end Go.Proofs.YtfkpbchdapccmaaDoor
