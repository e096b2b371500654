/- Evaluator, second make: a piece's run, behind which what is no longer reached is dropped. -/
import Derived.Test.YtgellkpbcoeccaaDoorA2
namespace Go.Ev

section
variable {C : Ctx} {fd : FD}
theorem zipF_gc {kp : List Tmp} {vs : List AV} {H : Heap} {m : Nat} (hl : vs.length = kp.length) : zipF kp ((gcS kp vs H m).e.map (·.2)) = (gcS kp vs H m).e := by
  have key : ∀ (kp : List Tmp) (vs : List AV), vs.length = kp.length → ∀ g : AV → AV, zipF kp (((zipF kp vs).map fun p => (p.1, g p.2)).map (·.2)) = (zipF kp vs).map fun p => (p.1, g p.2) := by
    intro kp
    induction kp with
    | nil => intro vs _ g; rfl
    | cons t kp ih =>
      intro vs hl g
      cases vs with
      | nil => cases hl
      | cons v vs =>
        show (t, g v) :: zipF kp (((zipF kp vs).map fun p => (p.1, g p.2)).map (·.2)) = (t, g v) :: _
        rw [ih vs (by simpa using hl) g]
  have k0 : zipF kp ((zipF kp vs).map (·.2)) = zipF kp vs := by
    have := key kp vs hl id
    simpa using this
  unfold gcS gc
  cases Nat.ble H.length m with
  | true => simpa using k0
  | false =>
    simp only [cond_false]
    cases okL m (gcR ⟨zipF kp vs, H, m⟩)
    · simpa using k0
    · exact key kp vs hl _
/-- The same, and what is no longer reached is dropped. -/
def kGc (kp : List Tmp) (m : Nat) (want : X → Bool) (msk : List Bool) : X → List AV → Heap → Option (X × List AV × Heap) := fun x vs H => match want x with
  | true => some (x, (gcS kp (mskV msk vs) H m).e.map (·.2), (gcS kp (mskV msk vs) H m).H)
  | false => none
noncomputable def codeG (C : Ctx) (Z : FuncId → Code → Option SumF) (n : Nat) (f : FuncId) (kp ct : List Tmp) (want : X → Bool) (msk : List Bool) (c : Code) (vs : List AV) (H : Heap) (m : Nat) : Option (X × List AV × Heap) :=
  (evM C Z n (X × List AV × Heap)).code f kp ct c vs H m (kGc kp m want msk)
theorem Does.runG {C' : Ctx} {Z' : FuncId → Code → Option SumF} (hO : Ok C') (hZ : ZOk C' Z') (hP : C'.P = C.P) (hg : C'.glob = C.glob) {f : FuncId} {c0 c : Code} (hfd : C'.code f = some fd) (hb : fd.fn.body = some c0) (hc : c ∈ subs c0) (n : Nat) {want : X → Bool} {msk : List Bool} {vs : List AV} {H : Heap} {q : X × List AV × Heap}
    (hv : vs.length = fd.keep.length) (h : codeG C' Z' n f fd.keep fd.ct want msk c vs H H.length = some q) : Does C fd c vs H q := by
  unfold codeG at h
  rw [(nat_all hZ.len n).code _ _ _ _ _ _ _ _ _ hv] at h
  obtain ⟨⟨x, vs1, H1⟩, h1, h2⟩ := Option.bind_eq_some_iff.1 h
  have hl1 := (nat_all hZ.len n).len _ _ _ _ _ _ _ _ hv h1
  unfold kGc at h2
  simp only at h2
  split at h2
  · cases Option.some.inj h2
    intro E w a m hok hI hf hm Q hq
    have hI' : Inv C' E H w := ⟨hI.len, hI.g, hI.sep, hI.blk, hI.inj, fun g l h => hI.glob g l (by rw [← hg]; exact h)⟩
    have := ((soundM hO hZ n).1 f fd c0 hfd hb c hc vs H H.length _ hv h1 E w a hok hI' hf (Nat.le_refl _) Q ?_).wp
    · rw [← hP]; exact this
    intro E' a' w' g1 g2 g3 g4 g5 g6 g7 g8
    have hlm : (mskV msk vs1).length = fd.keep.length := (mskV_le msk vs1).len.trans hl1
    obtain ⟨E2, k1, k2, k3, k4, _, k6⟩ := gc_ok (st := ⟨zipF fd.keep (mskV msk vs1), H1, H.length⟩) g3 (FrR.le g4 (mskV_le msk vs1)) g8
    have hEl : E.ρ.length = H.length := hI.len
    have g1' := PLe.trans (by rw [hEl]; exact Nat.le_refl _) g1 k1
    have hp : PLe m E E2 := ⟨fun id x hi e => g1'.ρ id x (Nat.lt_of_lt_of_le hi hm) e, g1'.G, fun _ => Nat.le_trans hm (g1'.len (by rw [hEl]; exact Nat.le_refl _)), fun id hi hl e => g1'.un id (Nat.lt_of_lt_of_le hi hm) hl e⟩
    refine hq E2 a' w' hp (g2.trans k3) ⟨k2.len, k2.g, k2.sep, k2.blk, k2.inj, fun g l h => k2.glob g l (by rw [hg]; exact h)⟩ ?_ g5 g6 rfl (Nat.le_trans hm k6)
    show FrR E2 (zipF fd.keep ((gcS fd.keep (mskV msk vs1) H1 H.length).e.map (·.2))) a'
    rw [zipF_gc hlm]
    exact k4
  · cases h2
end
end Go.Ev

