/- Evaluator: an argument that is a slice of numbers, as a contract hands it over. -/
import Derived.Test.YtgellkpbcoeccaaDoorA2
import Derived.ChangeSlices
namespace Go.Ev
open Go.RowKit

theorem okWide_slice {P : Program} {w : World} {r : Reach} {b0 : Nat} {t e : TypeId} {v : Value} (ht : P.underlying t = some (.slice e)) (h : Value.okWide P w r b0 t v) :
    v = .slice none 0 0 ∨ ∃ (a : Addr) (len cap : Nat), v = .slice (some a) len cap ∧ len ≤ cap ∧ a.spot = none := by
  cases v with
  | slice a len cap =>
    cases a with
    | none =>
      left
      cases len <;> cases cap <;> simp [Value.okWide, Cell.okWide, Cell.ok, ht] at h ⊢
    | some a =>
      right
      simp only [Value.okWide, Cell.okWide, Cell.ok, ht, World.has] at h
      exact ⟨a, len, cap, rfl, h.1, h.2.2.2.1⟩
  | _ => simp [Value.okWide, Cell.okWide, Cell.ok, ht] at h

theorem open_nums {H : Type} {enc : TypeId × Value → H} {P : Program} {W : World} {r : Reach} {b0 : Nat} {sp : Nat → Bool} {held : Bool} {t e : TypeId} {k : IntKind} {v : Value} {d : DataW H} {ps : List MemPlace}
    (ht : P.underlying t = some (.slice e)) (he : P.underlying e = some (.int k)) (hc : P.cellsOf e = 1) (hval : Value.okWide P W r b0 t v) (hd : DataW.Trod enc P W 0 sp held t v d ps) :
    (v = .slice none 0 0 ∧ RP (cellsIn W) .nils v) ∨ ∃ zs : List Int, RP (cellsIn W) (.ro false zs.length (zs.map fun z => .int k z)) v ∧ (∀ z ∈ zs, (Lit.int k z).wf = true) ∧ zs.length ≤ maxLen := by
  obtain ⟨fuel, hf⟩ := hd
  rcases okWide_slice ht hval with rfl | ⟨a, len, cap, rfl, hlc, hsp⟩
  · exact .inl ⟨rfl, .nils⟩
  · have hcs : (Value.slice (some a) len cap).cells.toList = [.slice (some a) len cap] := rfl
    rw [hcs] at hf
    rcases Go.ChangeShapes.open_ints ht he hc hf with ⟨h, _⟩ | ⟨a', len', cap', zs, h, _, hl, hm, hz, _, hcell, hw⟩
    · simp at h
    · simp only [List.cons.injEq, Value.slice.injEq, Option.some.injEq, and_true] at h
      obtain ⟨rfl, rfl, rfl⟩ := h
      have hlz : len ≤ zs.length := by rw [hz]; split <;> omega
      have hlen : (zs.take len).length = len := by simp; omega
      right
      refine ⟨zs.take len, ?_, fun z hzm => hw z (List.mem_of_mem_take hzm), by rw [hlen]; omega⟩
      rw [hlen]
      obtain ⟨b, o, s⟩ := a
      simp only at hsp
      subst hsp
      refine .ro (RG.of fun i hi => ?_) (fun h => by cases h) hl
      have hi' : i < len := by simp at hi; omega
      have hiz : i < zs.length := by omega
      refine ⟨.int k (zs.getD i 0), ?_, ?_⟩
      · have := hcell i hiz
        unfold Addr.add at this
        by_cases h0 : i = 0
        · subst h0; simpa [cellsIn] using this
        · simpa [h0, cellsIn] using this
      · have : ((zs.take len).map fun z => AV.int k z).getD i .undef = .int k (zs.getD i 0) := by
          simp [List.getD, hi', hiz]
        rw [this]
        exact .int _ _
/-- A slice of numbers, as the evaluator takes it. -/
def IsNums (k : IntKind) (x : AV) : Prop := x = .nils ∨ ∃ zs : List Int, x = .ro false zs.length (zs.map fun z => .int k z) ∧ (∀ z ∈ zs, (Lit.int k z).wf = true) ∧ zs.length ≤ maxLen
theorem open_nums' {H : Type} {enc : TypeId × Value → H} {P : Program} {W : World} {r : Reach} {b0 : Nat} {sp : Nat → Bool} {held : Bool} {t e : TypeId} {k : IntKind} {v : Value} {d : DataW H} {ps : List MemPlace}
    (ht : P.underlying t = some (.slice e)) (he : P.underlying e = some (.int k)) (hc : P.cellsOf e = 1) (hval : Value.okWide P W r b0 t v) (hd : DataW.Trod enc P W 0 sp held t v d ps) : ∃ x : AV, RP (cellsIn W) x v ∧ IsNums k x := by
  rcases open_nums ht he hc hval hd with ⟨_, h⟩ | ⟨zs, h, hz, hm⟩
  · exact ⟨_, h, .inl rfl⟩
  · exact ⟨_, h, .inr ⟨zs, rfl, hz, hm⟩⟩
end Go.Ev
