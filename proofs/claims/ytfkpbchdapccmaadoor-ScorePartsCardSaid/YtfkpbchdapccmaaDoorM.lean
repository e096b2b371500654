/- Chapter 17: what the functions compute, in plain terms. -/
import Derived.Test.YtfkpbchdapccmaaDoorS3
namespace Go.Proofs.YtfkpbchdapccmaaDoor
open Go Go.Ev

/-- Numbers from 'lo' on. -/
def rng (lo n : Nat) : List Int := (List.range n).map fun i => ((lo + i : Nat) : Int)
theorem mem_rng {lo n : Nat} {x : Int} (h1 : (lo : Int) ≤ x) (h2 : x < (lo : Int) + (n : Int)) : x ∈ rng lo n :=
  List.mem_map.2 ⟨(x - lo).toNat, List.mem_range.2 (by omega), by omega⟩

def vul (v s : Int) : Bool := leI v 3 && (leI s 3 && (bif s == 0 || s == 2 then v == 1 || v == 3 else v == 2 || v == 3))
def byI (v : Bool) (a b : Int) : Int := bif v then b else a
def valK (b : Int) : Int := bif leI b 1 then 20 else 30
def partK (a b r : Int) : Int := let p := a * valK b + (bif b == 4 then 10 else 0); bif r == 0 then p else bif r == 1 then p + p else (p + p) + (p + p)
def overK (b r : Int) (v : Bool) : Int := bif r == 0 then valK b else bif r == 1 then byI v 100 200 else byI v 200 400
def madeK (a b r : Int) (v : Bool) : Int :=
  let p := partK a b r
  p + (bif leI 100 p then byI v 300 500 else 50) + (bif a == 6 then byI v 500 750 else bif a == 7 then byI v 1000 1500 else 0) + 50 * r
def downK (r m : Int) (v : Bool) : Int :=
  let dbl := bif v then 300 * m - 100 else 200 * m - 100 + 100 * (bif decide (0 > m - 3) then 0 else m - 3)
  bif r == 0 then byI v 50 100 * m else bif r == 1 then dbl else 2 * dbl
/-- The points of a result, and the error's number. -/
def ptsOf (a b r t : Int) (v : Bool) : Int := bif leI 0 (t - (6 + a)) then madeK a b r v + (t - (6 + a)) * overK b r v else -(downK r (-(t - (6 + a))) v)
def pts (a b r d t : Int) (v : Bool) : Int := bif isRes a b r d t then (bif a == 0 then 0 else ptsOf a b r t v) else 0
def ptsE (a b r d t : Int) : Int := bif isRes a b r d t then 0 else 2

/-- What a list of tests says. -/
def domA : List (Int × Int × Int × Bool) := (rng 1 7).flatMap fun a => (rng 0 5).flatMap fun b => (rng 0 3).flatMap fun r => [(a, b, r, false), (a, b, r, true)]
theorem mem_two {α : Type} (f : Bool → α) (v : Bool) : f v ∈ [f false, f true] := by cases v <;> simp
theorem mem_domA {a b r : Int} (v : Bool) (h1 : 1 ≤ a) (h2 : a ≤ 7) (h3 : 0 ≤ b) (h4 : b ≤ 4) (h5 : 0 ≤ r) (h6 : r ≤ 2) : (a, b, r, v) ∈ domA :=
  List.mem_flatMap.2 ⟨a, mem_rng (by omega) (by omega), List.mem_flatMap.2 ⟨b, mem_rng (by omega) (by omega), List.mem_flatMap.2 ⟨r, mem_rng (by omega) (by omega), mem_two (fun v => (a, b, r, v)) v⟩⟩⟩
theorem allEq {α β : Type} {l : List α} {f g : α → β} (h : l.map f = l.map g) : ∀ x ∈ l, f x = g x := List.map_inj_left.1 h
end Go.Proofs.YtfkpbchdapccmaaDoor
