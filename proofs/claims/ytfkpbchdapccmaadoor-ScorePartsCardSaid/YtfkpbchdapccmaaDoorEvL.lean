/- Evaluator: soundness, part 9: calls; one operation. -/
import Derived.Test.YtfkpbchdapccmaaDoorEvK
namespace Go.Ev

/-- A function with a body. -/
def FnOk (C : Ctx) (f : FuncId) : Prop := ∃ fn, C.P.funcs[f]? = some fn ∧ fn.body.isSome = true ∧ (fn.name == "runtime.NumGoroutine") = false

def SoundCall (C : Ctx) (r : EvT) : Prop := ∀ (f : FuncId) (args : List AV) (H : Heap) (v : AV) (H' : Heap), (r.call f args H).run = some (v, H') → FnOk C f ∧ ∀ (E : Env) (w : World) (vs : List Value), Inv C E H w → RL E args vs →
  Calls C.P f vs.toArray w (fun e w' => ∃ c E', e = .returned c ∧ Good C E H w v H' c w' E')

/-- A call on what names no block of the caller's own. -/
def Iso (C : Ctx) (f : FuncId) (args : List AV) (v : AV) : Prop := ∀ (G : Gh) (w : World) (vs : List Value), Inv C ⟨[], G⟩ [] w → RPL G args vs →
  Calls C.P f vs.toArray w (fun e w' => ∃ c G', e = .returned c ∧ RP G' v c ∧ Stp ⟨[], G⟩ [] w ⟨[], G'⟩ [] w' ∧ Inv C ⟨[], G'⟩ [] w')

def SumOk (C : Ctx) : Prop := ∀ (f : FuncId) (F : List AV → T AV) (args : List AV) (v : AV), C.sum f = some F → (F args).run = some v → FnOk C f ∧ Iso C f args v

section
variable {C : Ctx} {E : Env} {H : Heap} {w : World}

theorem Inv.iso (hI : Inv C E H w) : Inv C ⟨[], E.G⟩ [] w :=
  ⟨rfl, hI.g, fun _ _ _ _ ⟨_, _, _, h, _⟩ => by simp at h, fun _ _ h => by simp at h, fun _ _ _ _ _ _ _ h => by simp at h, hI.glob⟩

/-- Back from a call on what names no block of the caller's own. -/
theorem iso_back (hI : Inv C E H w) {G' : Gh} {w' : World} {v : AV} {c : Value} (hr : RP G' v c) (hS : Stp ⟨[], E.G⟩ [] w ⟨[], G'⟩ [] w') (hI' : Inv C ⟨[], G'⟩ [] w') :
    Good C E H w v H c w' ⟨E.ρ, G'⟩ := by
  have noO : ∀ {G : Gh} {b}, ¬ OwnB ⟨[], G⟩ [] b := fun ⟨_, _, _, h, _⟩ => by simp at h
  have hheap : ∀ b, b < w.heap.size → w'.heap[b]? = w.heap[b]? := fun b hb => hS.unt b hb noO
  have hle : ELe E ⟨E.ρ, G'⟩ := ⟨fun _ _ h => h, hS.g, Nat.le_refl _, fun _ _ h => h⟩
  have hown : ∀ {b}, OwnB ⟨E.ρ, G'⟩ H b ↔ OwnB E H b := fun {b} => Iff.rfl
  refine ⟨hle, ⟨hS.g, fun b o c hg => ?_, fun b h => .inl h, fun b hb _ => hheap b hb, hS.size, hS.os, hS.tape, hS.output⟩, ⟨hI.len, hI'.g, fun b o c hg ho => ?_, fun id blk h => ?_, hI.inj, hI'.glob⟩, .pers hr⟩
  · rcases hS.gn b o c hg with h | h | h
    · exact .inl h
    · exact .inr (.inl h)
    · exact absurd h noO
  · rcases hS.gn b o c hg with h | h | h
    · exact hI.sep b o c h ho
    · have := hI.own_lt (b := b) ho; omega
    · exact absurd h noO
  · obtain ⟨b, m, cs, rest, h1, h2, h3, h4⟩ := hI.blk id blk h
    exact ⟨b, m, cs, rest, h1, by rw [hheap b (lt_of_get h2)]; exact h2, h3, h4.mono hle⟩

/-! ### What a call leaves is frozen -/
open Classical in
noncomputable def Env.froz (E : Env) (H : Heap) (w : World) : Gh := fun b o => if OwnB E H b then w.cell? ⟨b, o, none⟩ else E.G b o

theorem froz_le (hI : Inv C E H w) : GLe E.G (E.froz H w) := fun b o c h => by
  unfold Env.froz
  rw [if_neg (hI.sep b o c h)]; exact h

theorem froz_inv (hI : Inv C E H w) : Inv C ⟨[], E.froz H w⟩ [] w := by
  refine ⟨rfl, fun b o c h => ?_, fun _ _ _ _ ⟨_, _, _, h, _⟩ => by simp at h, fun _ _ h => by simp at h, fun _ _ _ _ _ _ _ h => by simp at h, fun g l h => (hI.glob g l h).mono (froz_le hI)⟩
  have h : E.froz H w b o = some c := h
  unfold Env.froz at h
  split at h
  · exact h
  · exact hI.g b o c h

theorem froz_row (hI : Inv C E H w) {id : Nat} {blk : Blk} {b m : Nat} (hb : H[id]? = some (some blk)) (he : E.at id = some (b, m)) {k : AV → AV} (hk : ∀ x c, R E x c → RP (E.froz H w) (k x) c) : RG (E.froz H w) b 0 (blk.cells.map k) := by
  obtain ⟨b0, m0, cs, rest, h1, h2, h3, h4⟩ := hI.blk id blk hb
  rw [he] at h1; cases h1
  have hown : OwnB E H b := ⟨id, blk, m, hb, he⟩
  have hcell : ∀ o, E.froz H w b o = (cs ++ rest)[o]? := fun o => by
    unfold Env.froz; rw [if_pos hown]; exact cell_of h2
  have : ∀ (l : List AV) (cs' : List Value) (o : Nat), RL E l cs' → (∀ j x, cs'[j]? = some x → E.froz H w b (o + j) = some x) → RG (E.froz H w) b o (l.map k) := by
    intro l
    induction l with
    | nil => intro _ o _ _; exact .nil _ _
    | cons v l ih =>
      intro cs' o hr hc
      cases hr with
      | cons a hr =>
        exact .cons (hc 0 _ rfl) (hk _ _ a) (ih _ (o + 1) hr fun j x hx => by rw [← hc (j + 1) x (by simpa using hx)]; congr 1; omega)
  refine this _ cs 0 h4 fun j x hx => ?_
  rw [hcell, Nat.zero_add]
  have hj : j < cs.length := by
    rcases Nat.lt_or_ge j cs.length with h | h
    · exact h
    · rw [List.getElem?_eq_none h] at hx; cases hx
  rw [List.getElem?_append_left hj]; exact hx

theorem frzCell_ok (hI : Inv C E H w) {k : Heap → AV → AV} (hk : ∀ x c, R E x c → RP (E.froz H w) (k H x) c) : ∀ v c, R E v c → RP (E.froz H w) (frzCell H k v) c := by
  intro v c hr
  unfold frzCell
  split
  · rename_i id off
    split
    · rename_i b hb
      obtain ⟨b', m, he, rfl⟩ := hr.own_inv
      have := (froz_row hI (hget_eq hb) he hk).drop off
      rw [Nat.zero_add] at this
      exact .rp this
    · exact .undef _
  · rename_i sz id off len cap
    split
    · rename_i b hb
      obtain ⟨b', m, cp, he, rfl, hcap, hlen, hm⟩ := hr.sl_inv
      have := ((froz_row hI (hget_eq hb) he hk).drop off).take (len * sz)
      rw [Nat.zero_add] at this
      refine .ro this (fun hf => ?_) hlen
      cases cap with
      | none => cases hf
      | some x => simp at hf; rw [hcap _ rfl, hf]
    · exact .undef _
  · split
    · exact .undef _
    · exact .undef _
    · exact .undef _
    · exact .undef _
    · rename_i h1 h2 _ h3 h4 h5 h6
      cases hr with
      | pers h => exact h.mono (froz_le hI)
      | agg _ => exact absurd rfl (h3 _)
      | tup _ => exact absurd rfl (h4 _)
      | own _ => exact absurd rfl (h1 _ _)
      | sl _ _ _ _ => exact absurd rfl (h2 _ _ _ _ _)
      | fn _ _ => exact absurd rfl (h5 _ _ _)
      | ifc _ => exact absurd rfl (h6 _ _)

theorem scal_rp (hI : Inv C E H w) {v : AV} {c : Value} (hr : R E v c) : RP (E.froz H w) (bif v.scal then v else .undef) c := by
  cases hs : v.scal
  · exact .undef _
  · simp only [cond_true]
    cases hr with
    | pers h => exact h.mono (froz_le hI)
    | _ => simp [AV.scal] at hs

theorem frz1_ok (hI : Inv C E H w) : ∀ v c, R E v c → RP (E.froz H w) (frz1 H v) c :=
  frzCell_ok hI (frzCell_ok hI (frzCell_ok hI (fun _ _ h => scal_rp hI h)))

theorem frzL_ok (hI : Inv C E H w) {k : AV → AV} (hk : ∀ x c, R E x c → RP (E.froz H w) (k x) c) : ∀ {l : List AV} {cs : List Value}, RL E l cs → RPL (E.froz H w) (l.map k) cs
  | _, _, .nil => .nil
  | _, _, .cons a l => .cons (hk _ _ a) (frzL_ok hI hk l)

theorem frz_ok (hI : Inv C E H w) {v : AV} {c : Value} (hr : R E v c) : RP (E.froz H w) (frz H v) c := by
  unfold frz
  split
  · obtain ⟨cs, rfl, hl⟩ := hr.agg_inv
    exact .agg (frzL_ok hI (frz1_ok hI) hl)
  · obtain ⟨cs, rfl, hl⟩ := hr.tup_inv
    refine .tup (frzL_ok hI (fun x c h => ?_) hl)
    split
    · obtain ⟨cs', rfl, hl'⟩ := h.agg_inv
      exact .agg (frzL_ok hI (frz1_ok hI) hl')
    · exact frz1_ok hI _ _ h
  · rename_i _ _
    cases hf : v.free
    · exact frz1_ok hI _ _ hr
    · exact (RL.free_rpl.free_rp hr hf).mono (froz_le hI)

/-- A call evaluated on its own heap. -/
theorem iso_of_call {r : EvT} (hr : SoundCall C r) {f : FuncId} {args : List AV} {v : AV} {Hf : Heap} (h : (r.call f args []).run = some (v, Hf)) : Iso C f args (frz Hf v) := by
  intro G w vs hI hargs
  refine ((hr f args [] v Hf h).2 ⟨[], G⟩ w vs hI hargs.rl).mono fun e w' ⟨c, E', he, hg⟩ => ?_
  refine ⟨c, E'.froz Hf w', he, frz_ok hg.inv hg.r, ?_, froz_inv hg.inv⟩
  have noO : ∀ {b}, ¬ OwnB ⟨[], G⟩ [] b := fun ⟨_, _, _, h, _⟩ => by simp at h
  refine ⟨fun b o c h => froz_le hg.inv _ _ _ (hg.stp.g _ _ _ h), fun b o c h => ?_, fun b ⟨_, _, _, h, _⟩ => by simp at h, hg.stp.unt, hg.stp.size, hg.stp.os, hg.stp.tape, hg.stp.output⟩
  have h : E'.froz Hf w' b o = some c := h
  unfold Env.froz at h
  split at h
  · rename_i ho
    rcases hg.stp.own b ho with h1 | h1
    · exact absurd h1 noO
    · exact .inr (.inl h1)
  · exact hg.stp.gn b o c h

/-- What a call comes to. -/
def CallOk (C : Ctx) (E : Env) (H : Heap) (w : World) (f : FuncId) (vs : List Value) (v : AV) (H' : Heap) : Prop :=
  Calls C.P f vs.toArray w (fun e w' => ∃ c E', e = .returned c ∧ Good C E H w v H' c w' E')

theorem callA_ok {r : EvT} (hr : SoundCall C r) (hs : SumOk C) (hI : Inv C E H w) {draw : Bool} {f : FuncId} {args : List AV} {vs : List Value} {v : AV} {H' : Heap} (h : (callA C r draw H f args).run = some (v, H')) (ha : RL E args vs) :
    FnOk C f ∧ CallOk C E H w f vs v H' ∧ (draw = true → H' = H) := by
  have fromIso : ∀ {v : AV}, Iso C f args v → freeL args = true → CallOk C E H w f vs v H := fun hiso hf => by
    refine (hiso E.G w vs hI.iso (ha.free_rpl hf)).mono fun e w' ⟨c, G', he, h1, h2, h3⟩ => ⟨c, _, he, iso_back hI h1 h2 h3⟩
  unfold callA at h
  split at h
  · rename_i F hF
    obtain ⟨hf, h⟩ := T.of_chk h
    obtain ⟨v', h1, h2⟩ := T.of_bind h
    obtain ⟨hv, h2⟩ := T.of_chk h2
    cases Option.some.inj h2
    exact ⟨(hs f F args _ hF h1).1, fromIso (hs f F args _ hF h1).2 hf, fun _ => rfl⟩
  · split at h
    · rename_i hf
      obtain ⟨⟨v', Hf⟩, h1, h2⟩ := T.of_bind h
      obtain ⟨hv, h2⟩ := T.of_chk h2
      cases Option.some.inj h2
      exact ⟨(hr f args [] _ _ h1).1, fromIso (iso_of_call hr h1) hf, fun _ => rfl⟩
    · split at h
      · simp [T.run] at h
      · exact ⟨(hr f args H v H' h).1, (hr f args H v H' h).2 E w vs hI ha, fun hd => by cases hd⟩
end
end Go.Ev
