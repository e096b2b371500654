/- Chapter 5: the function same is true for every mask. -/
import Derived.Test.YtgellkpbcoeccaaDoorSm15
namespace Go.Proofs.YtgellkpbcoeccaaDoor
open Go Go.Ev Go.Ev.Bits

noncomputable def uM (m : Nat) : Bool := leI 0 (m : Int) && leI m 18446744073709551615
def gdN (u : Bool) (k : Option AV) : Option AV := bif u then k else none
/-- 'if x != x { return false }' -/
noncomputable def neX (x : Nat) (k : Option AV) : Option AV := bif ((shut x : Nat) : Int) != ((shut x : Nat) : Int) then some (.bool false) else k
noncomputable def eqX (x : Nat) : Bool := ((shut x : Nat) : Int) == ((shut x : Nat) : Int)
noncomputable def eqL (m s : Nat) : Bool := ((shut (ln m s) : Nat) : Int) == nL5 s m
def iffB (b : Bool) (k : Option AV) : Option AV := bif b then k else some (.bool false)
noncomputable def tr10 (m : Nat) : Option AV :=
  gdN (uM m) (gdN (uM m) (bif !(shut (rightN m) == shut (rightN m)) then some (.bool false) else
  gdN (uM m) (neX (sumS (honS 1 2 3 4) m) (gdN (uM m) (neX (sumS (honS 0 0 1 2) m) (gdN (uM m) (neX (sumS losS m) (gdN (uM m) (neX (sumS qckS m)
  (gdN (um m) (neX (hd m 0) (gdN (um m) (neX (hd m 1) (gdN (um m) (neX (hd m 2) (gdN (um m) (neX (hd m 3) (gdN (um m)
  (gdN (uM m) (iffB (eqL m 0 && (eqL m 1 && (eqL m 2 && (eqL m 3 && true))))
  (gdN (uM m) (iffB (shut (pStr (pat m)) == shut (pStr (pat m)))
  (gdN (uM m) (gdN (uM m) (iffB (shut (balN m) == shut (balN m))
  (gdN (uM m) (some (.bool (eqX (sui m).1 && (eqX (sui m).2.1 && (eqX (sui m).2.2.1 && (eqX (sui m).2.2.2 && true))))))))))))))))))))))))))))))))
theorem t10 (m : Nat) : callsM C13 noZ 60 10 [.int .u64 m] = tr10 m := by kernel_rfl
theorem neX_eq (x : Nat) (k : Option AV) : neX x k = k := by
  unfold neX
  rw [bne_self_eq_false]; rfl
theorem eqX_eq (x : Nat) : eqX x = true := by unfold eqX; exact beq_self_eq_true _
theorem eqL_eq (m s : Nat) : eqL m s = true := by
  unfold eqL
  rw [nL5_eq, shut_eq]
  exact beq_self_eq_true _
theorem tr10_eq (m : Nat) (hm : m < 18446744073709551616) : tr10 m = some (.bool true) := by
  have e1 : uM m = true := by unfold uM; rw [leI_iff.2 (by omega), leI_iff.2 (by omega)]; rfl
  have e2 : um m = true := um_eq hm
  have g (k : Option AV) : gdN true k = k := rfl
  have i (k : Option AV) : iffB true k = k := rfl
  unfold tr10
  simp only [e1, e2, g, neX_eq, eqX_eq, eqL_eq, beq_self_eq_true, Bool.not_true, cond_false, Bool.and_self, i]
noncomputable def sSame : List AV → T AV
  | [.int .u64 m] => .chk (leI 0 m && leI m 18446744073709551615) (.leaf (.bool true))
  | _ => .fail
theorem iso10 : ∀ args v, (sSame args).run = some v → callsM C13 noZ 60 10 args = some v := by
  intro args v hr
  unfold sSame at hr
  split at hr
  · rename_i m
    obtain ⟨hc, hr2⟩ := T.of_chk hr
    clear hr
    simp only [Bool.and_eq_true, leI_iff] at hc
    obtain ⟨m, rfl⟩ : ∃ n : Nat, m = n := ⟨m.toNat, by omega⟩
    rw [t10, tr10_eq m (by omega)]
    exact hr2
  · simp [T.run] at hr
theorem sum10 : SumAt C13 (10, sSame) := ⟨callsM_fn ok13c noZ13 (iso10 [.int .u64 0] _ rfl), fun args v hr => callsM_iso ok13c noZ13 (iso10 args v hr)⟩
noncomputable def tab14 : List (Nat × (List AV → T AV)) := [(10, sSame)]
noncomputable def C14 : Ctx := withSum C13 tab14
theorem ok14c : Ok C14 := ok_with ok13c ⟨sum10, trivial⟩
theorem keepOk14 : ∀ f fd, C14.code f = some fd → fd.keep.Nodup := keepOk
theorem noZ14 : ZOk C14 noZ := noZ_ok keepOk14
end Go.Proofs.YtgellkpbcoeccaaDoor
