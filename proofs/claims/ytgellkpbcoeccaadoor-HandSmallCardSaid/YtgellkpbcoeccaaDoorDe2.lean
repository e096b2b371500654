/- Chapter 5: Dealt: a card is exchanged. -/
import Derived.Test.YtgellkpbcoeccaaDoorDe1
namespace Go.Proofs.YtgellkpbcoeccaaDoor
open Go Go.Ev Go.Ev.Bits

def chain {β : Type} : List Bool → Option β → Option β
  | [], k => k
  | b :: l, k => bif b then chain l k else none
theorem chain_eq {β : Type} : ∀ {l : List Bool} {k : Option β}, l.all id = true → chain l k = k
  | [], _, _ => rfl
  | b :: l, k, h => by
    simp only [List.all_cons, id, Bool.and_eq_true] at h
    unfold chain
    rw [h.1, cond_true]
    exact chain_eq h.2
noncomputable def xv (ls : List AV) (i : Nat) : AV := nth (ls.drop (i * 1)) 0
noncomputable def kI (ls : List AV) (i : Nat) : Int := IntKind.i64.wrap ((i : Int) + (IntKind.i64.wrap (xv ls i).toI).tmod (IntKind.i64.wrap (52 - (i : Int))))
noncomputable def vk (ls cs : List AV) (i : Nat) : AV := .int .i64 (cs.getD (0 + (kI ls i).toNat * 1) .undef).toI
noncomputable def vi (cs : List AV) (i : Nat) : AV := .int .i64 (cs.getD (0 + i * 1) .undef).toI
noncomputable def cs1 (ls cs : List AV) (i : Nat) : List AV := setL cs (0 + i * 1) [vk ls cs i]
noncomputable def cs2 (ls cs : List AV) (i : Nat) : List AV := setL (cs1 ls cs i) (0 + (kI ls i).toNat * 1) [vi cs i]
noncomputable def conds (len : Nat) (ls cs : List AV) (i : Nat) : List Bool := [decide ((i : Int) < len), leI 0 (i : Int) && decide ((i : Int) < len), Nat.ble 1 (ls.drop (i * 1)).length, AV.isI .u8 (xv ls i), !decide (IntKind.i64.wrap (52 - (i : Int)) = 0),
  leI 0 (kI ls i) && decide (kI ls i < 52), Nat.ble (0 + (kI ls i).toNat * 1 + 1) cs.length, AV.isI .i64 (cs.getD (0 + (kI ls i).toNat * 1) .undef), leI 0 (i : Int) && decide ((i : Int) < 52), Nat.ble (0 + i * 1 + 1) cs.length, AV.isI .i64 (cs.getD (0 + i * 1) .undef), leI 0 (i : Int) && decide ((i : Int) < 52),
  Nat.ble (0 + i * 1 + 1) cs.length && true, leI 0 (kI ls i) && decide (kI ls i < 52), Nat.ble (0 + (kI ls i).toNat * 1 + 1) (cs1 ls cs i).length && true]
theorem r25 (B0 : Option Blk) (b : Bool) (len i : Nat) (ls cs : List AV) : codeG C6 noZ 60 25 kp25 ct25 isN m25 bod25_2 (fr25 b len ls i) [B0, some ⟨50, cs⟩] 2 =
    chain (conds len ls cs i) (some (.n, fr25 b len ls (IntKind.i64.wrap ((i : Int) + 1)), [B0, some ⟨50, cs2 ls cs i⟩])) := by kernel_rfl
theorem r25x (B0 : Option Blk) (b : Bool) (len i : Nat) (ls cs : List AV) : codeG C6 noZ 60 25 kp25 ct25 isEx m25 bod25_2 (fr25 b len ls i) [B0, some ⟨50, cs⟩] 2 =
    bif decide ((i : Int) < len) then chain (conds len ls cs i).tail none else some (.ex 2, fr25 b len ls i, [B0, some ⟨50, cs⟩]) := by kernel_rfl
end Go.Proofs.YtgellkpbcoeccaaDoor
