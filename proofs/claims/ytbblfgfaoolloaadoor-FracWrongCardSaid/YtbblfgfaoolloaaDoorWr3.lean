/- Chapter 1: FracWrong: what it asks. -/
import Derived.Test.YtbblfgfaoolloaaDoorWr2
namespace Go.Proofs.YtbblfgfaoolloaaDoor
open Go Go.Ev Go.Ev.Bits

def nE (x : Int) (k : Option AV) : Option AV := bif x != 2 then tB false else k
/-- Sum, of a good one, a bad one, a good one. -/
noncomputable def sumK (gn gd' bn bd : Int) (k : Option AV) : Option AV := gd (u2k gn gd') (bif !(shut (rtN gn gd')) then k else gd (u2k bn bd) (bif !(shut (rtN bn bd)) then k else gd (u2k gn gd') (bif !(shut (rtN gn gd')) then k else none)))
noncomputable def TW (gn gd' bn bd a : Int) : Option AV :=
  gd (u4 gn gd' bn bd) (gd (u4 bn bd gn gd') (gd (u4 gn gd' bn bd) (gd (u4 bn bd 1 1) (sumK gn gd' bn bd (gd (u4 bn bd gn gd') (gd (bad2 bn bd) (gd (offP bn bd 2) (gd (bad2 bn bd) (gd (u2k bn bd)
  (gd (offP gn gd' (bif decide (-1 < a) then -1 else a)) (gd (offP gn gd' (bif decide (10 > a) then 10 else a)) (gd (u2k a 0) (gd (u4 gn gd' 0 1)
  (nE (shut (opA gn gd' bn bd).2.2) (nE (shut (opS bn bd gn gd').2.2) (nE (shut (opM gn gd' bn bd).2.2) (nE (shut (opD bn bd 1 1).2.2) (nE (shut (opC bn bd gn gd').2) (nE (shut (opN bn bd).2.2) (nE (shut (mkF a 0).2.2) (nE (shut (opD gn gd' 0 1).2.2)
  (gd (u2k bn bd) (bif !(shut (rtN bn bd)) then gd (u2k gn gd') (bif shut (rtN gn gd') then tB true else tB false) else tB false)))))))))))))))))))))))
def b16 (b : Int) : Int := IntKind.i64.wrap ↑(BitVec.ofInt IntKind.i64.bits b &&& BitVec.ofInt IntKind.i64.bits 65535).toNat
/-- The bad one. -/
def badF (a b : Int) : Nat → Int × Int
  | 0 => (a, 0)
  | 1 => (a, bif decide (-1 < b) then -1 else b)
  | 2 => (IntKind.i64.wrap (2 * a.fdiv (2 ^ min (Int.toNat 2) IntKind.i64.bits)), IntKind.i64.wrap (2 * IntKind.i64.wrap (1 + b16 b)))
  | 3 => (0, IntKind.i64.wrap (2 + b16 b))
  | 4 => (0, 0)
  | _ => (1, -1)
noncomputable def LW (a b n : Int) (w : Nat) : Option AV := gd (leI (-32768) n && (leI n 32767 && (leI (-32768) 5 && leI 5 32767))) (TW (sN n 5) (sD n 5) (badF a b (w % 6)).1 (badF a b (w % 6)).2 a)
end Go.Proofs.YtbblfgfaoolloaaDoor
