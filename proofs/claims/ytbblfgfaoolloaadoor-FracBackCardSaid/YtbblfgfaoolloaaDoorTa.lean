/- Evaluator: what strconv.Atoi gives, taken from the kit's contracts. -/
import Derived.Test.YtbblfgfaoolloaaDoorA2
import Derived.Lib.AtoiAll
namespace Go.Ev

def sAtoi (te : TypeId) : List AV → T AV
  | [.str s] => .chk (Nat.ble s.length 281474976710656) (match Lib.atoiAll s with
    | .ok v => .leaf (.tup [.int .i64 v, .nili])
    | .range => .leaf (.tup [.int .i64 (Lib.atoiSat s), .ifc te .undef])
    | _ => .leaf (.tup [.int .i64 0, .ifc te .undef]))
  | _ => .fail

theorem atoi_else {s : List UInt8} (h1 : ∀ v, Lib.atoiAll s = .ok v → False) (h2 : Lib.atoiAll s = .range → False) : Lib.atoiAll s = Lib.atoiAll [] := by
  show _ = Lib.atoiAll []
  cases h : Lib.atoiAll s with
  | ok v => exact (h1 v h).elim
  | range => exact (h2 h).elim
  | _ => rfl
theorem sum_Atoi {C : Ctx} {f : FuncId} {te tn tb : TypeId} {g1 g2 : Nat} {t1 t2 : TypeId} (hf : FnOk C f) (hg1 : C.glob g1 = some [.ifc t1 .undef]) (hg2 : C.glob g2 = some [.ifc t2 .undef])
    (h1 : ∀ (s : ByteArray), s.size ≤ 9223372036854775806 → ∀ v, Lib.atoiAll s.data.toList = .ok v → ∀ w, Calls C.P f #[.string s] w fun e w' => e = .returned (.tuple #[.int .i64 v, .nilIface]) ∧ (w' = w ∨ ∃ t, w' = Lib.bytesWorld w tb t))
    (h2 : ∀ (s : ByteArray), s.size ≤ 281474976710656 → Lib.atoiAll s.data.toList = Lib.atoiAll [] → ∀ (ev : Value) (w : World), w.cell? ⟨g1, 0, none⟩ = some ev → (ev = .nilIface ∨ ∃ te pe, ev = .iface te pe) → Calls C.P f #[.string s] w fun e w' => ∃ N, e = .returned (.tuple #[.int .i64 (0), .iface te (.pointer (some ⟨N, 0, none⟩))]) ∧ w.heap.size ≤ N ∧ w'.heap[N]? = some (.cells #[.string ⟨#[65, 116, 111, 105]⟩, .string s, ev] tn (0, 0)) ∧ RowKit.Below w.heap.size w w')
    (h3 : ∀ (s : ByteArray), s.size ≤ 281474976710656 → Lib.atoiAll s.data.toList = .range → ∀ (ev : Value) (w : World), w.cell? ⟨g2, 0, none⟩ = some ev → (ev = .nilIface ∨ ∃ te pe, ev = .iface te pe) → Calls C.P f #[.string s] w fun e w' => ∃ N, e = .returned (.tuple #[.int .i64 (Lib.atoiSat s.data.toList), .iface te (.pointer (some ⟨N, 0, none⟩))]) ∧ w.heap.size ≤ N ∧ w'.heap[N]? = some (.cells #[.string ⟨#[65, 116, 111, 105]⟩, .string s, ev] tn (0, 0)) ∧ RowKit.Below w.heap.size w w') :
    SumAt C (f, sAtoi te) := by
  have glob : ∀ {w : World} {g : Nat} {t : TypeId}, RG (cellsIn w) g 0 [.ifc t .undef] → ∃ x, w.cell? ⟨g, 0, none⟩ = some (.iface t x) := fun {w g t} h => by
    cases h with
    | cons a b _ =>
      cases b
      exact ⟨_, a⟩
  refine ⟨hf, fun args v hr => ?_⟩
  replace hr : (sAtoi te args).run = some v := hr
  show Iso C f args v
  unfold sAtoi at hr
  split at hr
  · rename_i s
    obtain ⟨hl, hr⟩ := T.of_chk hr
    simp only [Nat.ble_eq] at hl
    have hl' : (⟨s.toArray⟩ : ByteArray).size ≤ 281474976710656 := by show s.toArray.size ≤ _; simpa using hl
    refine Iso.of_below fun w vs hg ha => ?_
    obtain ⟨a, rfl, ha1⟩ := ha.one
    rw [ha1.of_str]
    split at hr
    · rename_i x hx
      cases Option.some.inj hr
      refine (h1 ⟨s.toArray⟩ (by omega) x hx w).mono fun e w' ⟨he, hw⟩ => ⟨_, he, fun G => .tup (.cons (.int _ _) (.cons .nili .nil)), ?_⟩
      rcases hw with hw | ⟨t, hw⟩
      · rw [hw]; exact RowKit.Below.refl _ _
      · rw [hw]; exact Joins.below_bytesWorld _ _ _ _ (Nat.le_refl _)
    · rename_i hx
      cases Option.some.inj hr
      obtain ⟨x, hc⟩ := glob (hg g2 _ hg2)
      exact (h3 ⟨s.toArray⟩ hl' hx _ w hc (.inr ⟨_, _, rfl⟩)).mono fun e w' ⟨N, he, _, _, hb⟩ => ⟨_, he, fun G => .tup (.cons (.int _ _) (.cons (.ifc (.undef _)) .nil)), hb⟩
    · rename_i hx1 hx2
      cases Option.some.inj hr
      obtain ⟨x, hc⟩ := glob (hg g1 _ hg1)
      exact (h2 ⟨s.toArray⟩ hl' (atoi_else hx1 hx2) _ w hc (.inr ⟨_, _, rfl⟩)).mono fun e w' ⟨N, he, _, _, hb⟩ => ⟨_, he, fun G => .tup (.cons (.int _ _) (.cons (.ifc (.undef _)) .nil)), hb⟩
  · simp [T.run] at hr

end Go.Ev
