/- Evaluator: a seat's tables, by computing. -/
import Derived.Test.YtfkpbchdapccmaaDoorEvQ
namespace Go.Ev

def tyKey (P : Program) (z : Bool) (t : TypeId) : Option (D × Nat × Nat × Option (List AV)) :=
  match P.underlying t, P.info? t with
  | some d, some i => some (D.of d, i.size, i.bytes, bif z then i.zero.map fun v => (ofV v).cells else none)
  | _, _ => none

def tyKeyC (i : TI) : Option (D × Nat × Nat × Option (List AV)) := some (i.desc, i.size, i.bytes, i.zero)

/-- 'p' at 'n' numbers from 'k' on. -/
def AllFrom (p : Nat → Prop) : Nat → Nat → Prop
  | _, 0 => True
  | k, n + 1 => p k ∧ AllFrom p (k + 1) n

theorem AllFrom.at {p : Nat → Prop} : ∀ {k n : Nat}, AllFrom p k n → ∀ t, k ≤ t → t < k + n → p t
  | k, 0, _, t, h1, h2 => by omega
  | k, n + 1, h, t, h1, h2 => by
    by_cases e : t = k
    · rw [e]; exact h.1
    · exact AllFrom.at h.2 t (by omega) (by omega)

/-- Rows of tens. -/
def Tens (p : Nat → Prop) (n : Nat) : Prop := ∀ k, 10 * k < n → AllFrom p (10 * k) (min 10 (n - 10 * k))
theorem Tens.at {p : Nat → Prop} {n : Nat} (h : Tens p n) (t : Nat) (ht : t < n) : p t :=
  (h (t / 10) (by omega)).at t (by omega) (by omega)

def TyAt (C : Ctx) (t : TypeId) : Prop := tyKey C.P (C.ty t).zero.isSome t = tyKeyC (C.ty t)

theorem TyAt.mk {C : Ctx} {t : TypeId} (h : tyKey C.P (C.ty t).zero.isSome t = tyKeyC (C.ty t)) : TyAt C t := h

theorem tyOk_of {C : Ctx} (n : Nat) (h0 : ∀ t, n ≤ t → (C.ty t).ok = false) (h : ∀ t, t < n → TyAt C t) : TyOk C := by
  intro t ht
  have hlt : t < n := by
    rcases Nat.lt_or_ge t n with h1 | h1
    · exact h1
    · rw [h0 t h1] at ht; cases ht
  have h1 : tyKey C.P (C.ty t).zero.isSome t = tyKeyC (C.ty t) := h t hlt
  unfold tyKey tyKeyC at h1
  split at h1
  · rename_i d i hd hi
    simp only [Option.some.injEq, Prod.mk.injEq] at h1
    obtain ⟨e1, e2, e3, e4⟩ := h1
    refine ⟨⟨d, hd, e1⟩, i, hi, e2, e3, fun z hz => ?_⟩
    rw [hz] at e4
    simp only [Option.isSome_some, cond_true] at e4
    cases hzv : i.zero with
    | none => rw [hzv] at e4; cases e4
    | some zv =>
      rw [hzv] at e4
      exact ⟨zv, rfl, Option.some.inj e4⟩
  · cases h1

def eqKey (P : Program) (i : TI) (t : TypeId) : Option (List D) × Bool × Bool :=
  bif i.eq then (flatD P 8 t, P.eqGuardType P.depth t, isAggD i.desc) else (none, false, true)
def eqKeyC (i : TI) : Option (List D) × Bool × Bool :=
  bif i.eq then (some i.cds, false, true) else (none, false, true)

def EqAt (C : Ctx) (t : TypeId) : Prop := eqKey C.P (C.ty t) t = eqKeyC (C.ty t)

theorem EqAt.mk {C : Ctx} {t : TypeId} (h : eqKey C.P (C.ty t) t = eqKeyC (C.ty t)) : EqAt C t := h

theorem eqOk_of {C : Ctx} (n : Nat) (h0 : ∀ t, n ≤ t → (C.ty t).eq = false) (h : ∀ t, t < n → EqAt C t) : EqOk C := by
  intro t ht
  have hlt : t < n := by
    rcases Nat.lt_or_ge t n with h1 | h1
    · exact h1
    · rw [h0 t h1] at ht; cases ht
  have h1 : eqKey C.P (C.ty t) t = eqKeyC (C.ty t) := h t hlt
  simp only [eqKey, eqKeyC, ht, cond_true, Prod.mk.injEq] at h1
  exact h1

def fdAt : List (Nat × FD) → FuncId → Option FD
  | [], _ => none
  | (g, d) :: l, f => bif Nat.beq g f then some d else fdAt l f

theorem fdAt_mem : ∀ {l : List (Nat × FD)} {f : FuncId} {d : FD}, fdAt l f = some d → (f, d) ∈ l
  | [], _, _, h => by cases h
  | (g, d') :: l, f, d, h => by
    simp only [fdAt] at h
    cases hb : Nat.beq g f
    · rw [hb] at h; exact .tail _ (fdAt_mem h)
    · rw [hb] at h
      have := Nat.eq_of_beq_eq_true hb
      subst this
      cases Option.some.inj h
      exact .head _

def fdOk (d : FD) : Bool := !(d.fn.name == "runtime.NumGoroutine") && match d.fn.body with | some c => codeOk d.fn.ntmps c | none => true

def FnAt (C : Ctx) (p : Nat × FD) : Prop := C.P.funcs[p.1]? = some p.2.fn ∧ fdOk p.2 = true
def AllL {α : Type} (p : α → Prop) : List α → Prop
  | [] => True
  | a :: l => p a ∧ AllL p l
theorem AllL.mem {α : Type} {p : α → Prop} : ∀ {l : List α}, AllL p l → ∀ a ∈ l, p a
  | [], _, a, h => by cases h
  | b :: l, h, a, hm => by
    rcases List.mem_cons.1 hm with e | e
    · rw [e]; exact h.1
    · exact AllL.mem h.2 a e

theorem codeOk_of {C : Ctx} (l : List (Nat × FD)) (h : ∀ f, C.code f = fdAt l f) (h1 : AllL (FnAt C) l) : CodeOk C := by
  intro f fd hf
  rw [h] at hf
  obtain ⟨e1, e2⟩ := h1.mem _ (fdAt_mem hf)
  simp only [fdOk, Bool.and_eq_true, Bool.not_eq_true'] at e2
  refine ⟨e1, e2.1, fun c hc => ?_⟩
  have := e2.2
  rw [hc] at this
  exact this

def globAt : List (Nat × List AV) → Nat → Option (List AV)
  | [], _ => none
  | (g, d) :: l, f => bif Nat.beq g f then some d else globAt l f

theorem globAt_all {p : Nat × List AV → Prop} : ∀ {l : List (Nat × List AV)}, AllL p l → ∀ g d, globAt l g = some d → p (g, d)
  | [], _, _, _, h => by cases h
  | (g', d') :: l, ha, g, d, h => by
    simp only [globAt] at h
    cases hb : Nat.beq g' g
    · rw [hb] at h; exact globAt_all ha.2 g d h
    · rw [hb] at h
      have := Nat.eq_of_beq_eq_true hb
      subst this
      cases Option.some.inj h
      exact ha.1
end Go.Ev
