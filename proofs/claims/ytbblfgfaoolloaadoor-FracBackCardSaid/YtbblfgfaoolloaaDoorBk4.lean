/- Chapter 1: FracBack: Read. -/
import Derived.Test.YtbblfgfaoolloaaDoorBk3
namespace Go.Proofs.YtbblfgfaoolloaaDoor
open Go Go.Ev Go.Ev.Bits

def badR : Option AV := some (.tup [.agg [.int .i64 0, .int .i64 0], .int .i64 10])
noncomputable def rdK (x y s : List UInt8) : Option AV :=
  gd (Nat.ble x.length 281474976710656) (bif shut (okA x) then gd (Nat.ble y.length 281474976710656) (bif shut (okA y) then gd (u2k (shut (vA x)) (shut (vA y))) (bif shut (er (shut (vA x)) (shut (vA y))) != 0 then badR else bif !(shut (tx (shut (vA x)) (shut (vA y))) == s) then badR else some (.tup [.agg [.int .i64 (shut (vA x)), .int .i64 (shut (vA y))], .int .i64 0])) else gd (u2k (shut (vA x)) (shut (vA y))) badR)
  else gd (Nat.ble y.length 281474976710656) (bif shut (okA y) then gd (u2k (shut (vA x)) (shut (vA y))) badR else gd (u2k (shut (vA x)) (shut (vA y))) badR))
theorem t19 (s : List UInt8) : callsM CR noZ 60 19 [.str s] = gd (Nat.ble s.length 1000000) (bif !(shut (spl s).2.isSome) then rdK (shut (spl s).1) [49] s else rdK (shut (spl s).1) (shut ((spl s).2.getD [])) s) := by kernel_rfl
def rdX (x y s : List UInt8) : T3 := bif okA x && okA y then (bif rtN (vA x) (vA y) && (txt (vA x) (vA y) == s) then (vA x, vA y, 0) else (0, 0, 10)) else (0, 0, 10)
theorem rdF_X (s : List UInt8) : rdF s = rdX (spl s).1 ((spl s).2.getD [49]) s := by
  unfold rdF rdX okA vA
  cases Lib.atoiAll (spl s).1 with
  | ok a =>
    cases Lib.atoiAll ((spl s).2.getD [49]) with
    | ok b => rfl
    | _ => rfl
  | _ => rfl
theorem rdK_eq (x y s : List UInt8) (hx : x.length ≤ 281474976710656) (hy : y.length ≤ 281474976710656) : rdK x y s = some (tri (rdX x y s)) := by
  have u : u2k (vA x) (vA y) = true := u2k_ok' (i64k_iff.2 (vA_rng x)) (i64k_iff.2 (vA_rng y))
  unfold rdK rdX tx er
  simp only [shut_eq]
  rw [gd_eq (Nat.ble_eq_true_of_le hx), gd_eq (Nat.ble_eq_true_of_le hy), gd_eq u, gd_eq u, gd_eq (Nat.ble_eq_true_of_le hy)]
  cases okA x <;> cases okA y <;> cases rtN (vA x) (vA y) <;> first | rfl | (simp only [cond_true, Bool.true_and]; cases (txt (vA x) (vA y) == s) <;> rfl)
theorem spl_len (s : List UInt8) : (spl s).1.length ≤ s.length ∧ ((spl s).2.getD []).length ≤ s.length := by
  rcases spl_or s with ⟨h1, h2⟩ | ⟨x, y, h1, h2, h3⟩
  · rw [h2]; simp
  · rw [h3, h2]; simp; omega
noncomputable def sRead : List AV → T AV
  | [.str s] => .chk (Nat.ble s.length 1000000) (.leaf (triS (rdF s)))
  | _ => .fail
theorem iso19 : ∀ args v, (sRead args).run = some v → callsM CR noZ 60 19 args = some v := by
  intro args v hr
  unfold sRead at hr
  split at hr
  · rename_i s
    obtain ⟨hc, hr2⟩ := T.of_chk hr
    clear hr
    have hl := Nat.le_of_ble_eq_true hc
    obtain ⟨l1, l2⟩ := spl_len s
    rw [triS_eq, rdF_X] at hr2
    rw [t19, gd_eq hc]
    simp only [shut_eq]
    rw [← Option.some.inj hr2]
    cases h : (spl s).2 with
    | none =>
      rw [h] at l2
      rw [rdK_eq _ _ _ (by omega) (by simp)]
      rfl
    | some y =>
      rw [h] at l2
      have l3 : y.length ≤ s.length := l2
      show rdK (spl s).1 y s = _
      rw [rdK_eq _ _ _ (by omega) (by omega)]
      rfl
  · simp [T.run] at hr
theorem sum19 : SumAt CR (19, sRead) := ⟨callsM_fn okR noZR (iso19 [.str []] (triS (rdF [])) rfl), fun args v hr => callsM_iso okR noZR (iso19 args v hr)⟩
noncomputable def tabQ : List (Nat × (List AV → T AV)) := [(19, sRead)]
noncomputable def CQ : Ctx := withSum CR tabQ
theorem okQ : Ok CQ := ok_with okR ⟨sum19, trivial⟩
theorem noZQ : ZOk CQ noZ := noZ_ok (show ∀ f fd, CQ.code f = some fd → fd.keep.Nodup from keepOk)
end Go.Proofs.YtbblfgfaoolloaaDoor
