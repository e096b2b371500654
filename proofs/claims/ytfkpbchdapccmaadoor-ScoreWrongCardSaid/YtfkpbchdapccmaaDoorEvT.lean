/- Evaluator: what some functions of Go's library give, taken from the kit's contracts. -/
import Derived.Test.YtfkpbchdapccmaaDoorEvS
import Derived.Lib.Bytealg
import Derived.Lib.Repeat
import Derived.Lib.AtoiAll
import Derived.Lib.ItoaNum
import Derived.Lib.SmallJoins
namespace Go.Ev

def SumAt (C : Ctx) (p : Nat × (List AV → T AV)) : Prop := FnOk C p.1 ∧ ∀ args v, (p.2 args).run = some v → Iso C p.1 args v

def sumAt : List (Nat × (List AV → T AV)) → FuncId → Option (List AV → T AV)
  | [], _ => none
  | (g, d) :: l, f => bif Nat.beq g f then some d else sumAt l f

theorem sumAt_all {p : Nat × (List AV → T AV) → Prop} : ∀ {l : List (Nat × (List AV → T AV))}, AllL p l → ∀ g d, sumAt l g = some d → p (g, d)
  | [], _, _, _, h => by cases h
  | (g', d') :: l, ha, g, d, h => by
    simp only [sumAt] at h
    cases hb : Nat.beq g' g
    · rw [hb] at h; exact sumAt_all ha.2 g d h
    · rw [hb] at h
      have := Nat.eq_of_beq_eq_true hb
      subst this
      cases Option.some.inj h
      exact ha.1

theorem sumOk_of {C C' : Ctx} {l : List (Nat × (List AV → T AV))} (hP : C'.P = C.P) (hg : C'.glob = C.glob) (hs : ∀ f, C'.sum f = sumAt l f) (h : AllL (SumAt C) l) : SumOk C' := by
  intro f F args v hf hr
  rw [hs] at hf
  obtain ⟨h1, h2⟩ := sumAt_all h f F hf
  exact ⟨h1.at hP, (h2 args v hr).at hP hg⟩

def sIndexByte : List AV → T AV
  | [.str s, .int .u8 c] => .leaf (.int .i64 (Lib.indexByte s c.toNat.toUInt8))
  | _ => .fail

theorem sum_IndexByte {C : Ctx} {f : FuncId} (hf : FnOk C f) (h : ∀ (s : ByteArray) (c : Int) (w : World), Calls C.P f #[.string s, .int .u8 c] w fun e w' => e = .returned (.int .i64 (Lib.indexByte s.data.toList c.toNat.toUInt8)) ∧ w' = w) : SumAt C (f, sIndexByte) := by
  refine ⟨hf, fun args v hr => ?_⟩
  replace hr : (sIndexByte args).run = some v := hr
  show Iso C f args v
  unfold sIndexByte at hr
  split at hr
  · rename_i s c
    cases Option.some.inj hr
    refine Iso.of_same (fun G => .int _ _) fun w vs _ ha => ?_
    obtain ⟨a, b, rfl, h1, h2⟩ := ha.two
    rw [h1.of_str, h2.of_int]
    exact h ⟨s.toArray⟩ c w
  · simp [T.run] at hr

def sRepeat : List AV → T AV
  | [.str s, .int .i64 c] => .chk (leI 0 c && leI c 9223372036854775807 && Nat.ble (s.length * c.toNat) 140737488355328) (.leaf (.str (Lib.repeatL s c.toNat)))
  | _ => .fail

theorem sum_Repeat {C : Ctx} {f : FuncId} (hf : FnOk C f) (h : ∀ (s : ByteArray) (c : Nat) (w : World), c ≤ 9223372036854775807 → s.size * c ≤ 140737488355328 →
    Calls C.P f #[.string s, .int .i64 c] w fun e w' => e = .returned (.string ⟨(Lib.repeatL s.data.toList c).toArray⟩) ∧ RowKit.Below w.heap.size w w') : SumAt C (f, sRepeat) := by
  refine ⟨hf, fun args v hr => ?_⟩
  replace hr : (sRepeat args).run = some v := hr
  show Iso C f args v
  unfold sRepeat at hr
  split at hr
  · rename_i s c
    obtain ⟨hc, hr⟩ := T.of_chk hr
    simp only [Bool.and_eq_true, leI, decide_eq_true_eq, Nat.ble_eq] at hc
    cases Option.some.inj hr
    refine Iso.of_below fun w vs _ ha => ?_
    obtain ⟨a, b, rfl, h1, h2⟩ := ha.two
    rw [h1.of_str, h2.of_int]
    have hcn : ((c.toNat : Nat) : Int) = c := by omega
    have := h ⟨s.toArray⟩ c.toNat w (by omega) (by show s.toArray.size * _ ≤ _; simpa using hc.2)
    rw [hcn] at this
    exact this.mono fun e w' ⟨he, hb⟩ => ⟨_, he, fun G => .str _, hb⟩
  · simp [T.run] at hr

def sAtoi (te : TypeId) : List AV → T AV
  | [.str s] => .chk (Nat.ble s.length 281474976710656) (match Lib.atoiAll s with
    | .ok v => .leaf (.tup [.int .i64 v, .nili])
    | .syntax => .leaf (.tup [.int .i64 0, .ifc te .undef])
    | .range => .leaf (.tup [.int .i64 (Lib.atoiSat s), .ifc te .undef]))
  | _ => .fail

theorem sum_Atoi {C : Ctx} {f : FuncId} {te tn tb : TypeId} {g1 g2 : Nat} {t1 t2 : TypeId} (hf : FnOk C f) (hg1 : C.glob g1 = some [.ifc t1 .undef]) (hg2 : C.glob g2 = some [.ifc t2 .undef])
    (h1 : ∀ (s : ByteArray), s.size ≤ 9223372036854775806 → ∀ v, Lib.atoiAll s.data.toList = .ok v → ∀ w, Calls C.P f #[.string s] w fun e w' => e = .returned (.tuple #[.int .i64 v, .nilIface]) ∧ (w' = w ∨ ∃ t, w' = Lib.bytesWorld w tb t))
    (h2 : ∀ (s : ByteArray), s.size ≤ 281474976710656 → Lib.atoiAll s.data.toList = Lib.atoiAll [] → ∀ (ev : Value) (w : World), w.cell? ⟨g1, 0, none⟩ = some ev → (ev = .nilIface ∨ ∃ te pe, ev = .iface te pe) → Calls C.P f #[.string s] w fun e w' => ∃ N, e = .returned (.tuple #[.int .i64 (0), .iface te (.pointer (some ⟨N, 0, none⟩))]) ∧ w.heap.size ≤ N ∧ w'.heap[N]? = some (.cells #[.string ⟨#[65, 116, 111, 105]⟩, .string s, ev] tn (0, 0)) ∧ RowKit.Below w.heap.size w w')
    (h3 : ∀ (s : ByteArray), s.size ≤ 281474976710656 → Lib.atoiAll s.data.toList = .range → ∀ (ev : Value) (w : World), w.cell? ⟨g2, 0, none⟩ = some ev → (ev = .nilIface ∨ ∃ te pe, ev = .iface te pe) → Calls C.P f #[.string s] w fun e w' => ∃ N, e = .returned (.tuple #[.int .i64 (Lib.atoiSat s.data.toList), .iface te (.pointer (some ⟨N, 0, none⟩))]) ∧ w.heap.size ≤ N ∧ w'.heap[N]? = some (.cells #[.string ⟨#[65, 116, 111, 105]⟩, .string s, ev] tn (0, 0)) ∧ RowKit.Below w.heap.size w w') :
    SumAt C (f, sAtoi te) := by
  have glob : ∀ {w : World} {g : Nat} {t : TypeId}, RG (cellsIn w) g 0 [.ifc t .undef] → ∃ x, w.cell? ⟨g, 0, none⟩ = some (.iface t x) := fun {w g t} h => by
    cases h with
    | cons a b _ =>
      cases b
      exact ⟨_, a⟩
  refine ⟨hf, fun args v hr => ?_⟩
  replace hr : (sAtoi te args).run = some v := hr
  show Iso C f args v
  unfold sAtoi at hr
  split at hr
  · rename_i s
    obtain ⟨hl, hr⟩ := T.of_chk hr
    simp only [Nat.ble_eq] at hl
    have hl' : (⟨s.toArray⟩ : ByteArray).size ≤ 281474976710656 := by show s.toArray.size ≤ _; simpa using hl
    refine Iso.of_below fun w vs hg ha => ?_
    obtain ⟨a, rfl, ha1⟩ := ha.one
    rw [ha1.of_str]
    split at hr
    · rename_i x hx
      cases Option.some.inj hr
      refine (h1 ⟨s.toArray⟩ (by omega) x hx w).mono fun e w' ⟨he, hw⟩ => ⟨_, he, fun G => .tup (.cons (.int _ _) (.cons .nili .nil)), ?_⟩
      rcases hw with hw | ⟨t, hw⟩
      · rw [hw]; exact RowKit.Below.refl _ _
      · rw [hw]; exact Joins.below_bytesWorld _ _ _ _ (Nat.le_refl _)
    · rename_i hx
      cases Option.some.inj hr
      obtain ⟨x, hc⟩ := glob (hg g1 _ hg1)
      exact (h2 ⟨s.toArray⟩ hl' hx _ w hc (.inr ⟨_, _, rfl⟩)).mono fun e w' ⟨N, he, _, _, hb⟩ => ⟨_, he, fun G => .tup (.cons (.int _ _) (.cons (.ifc (.undef _)) .nil)), hb⟩
    · rename_i hx
      cases Option.some.inj hr
      obtain ⟨x, hc⟩ := glob (hg g2 _ hg2)
      exact (h3 ⟨s.toArray⟩ hl' hx _ w hc (.inr ⟨_, _, rfl⟩)).mono fun e w' ⟨N, he, _, _, hb⟩ => ⟨_, he, fun G => .tup (.cons (.int _ _) (.cons (.ifc (.undef _)) .nil)), hb⟩
  · simp [T.run] at hr

/-- The numeral of a small number. -/
def dig (n : Nat) : UInt8 := UInt8.ofNat (48 + n)
def num2 (n : Nat) : List UInt8 := bif Nat.ble 10 n then [dig (n / 10), dig (n % 10)] else [dig n]
def itoaS (n : Int) : List UInt8 := bif leI 0 n then num2 n.toNat else 45 :: num2 (-n).toNat

def sItoa (lo : Nat) : List AV → T AV
  | [.int .i64 n] => .chk (leI (-lo) n && leI n 99) (.leaf (.str (itoaS n)))
  | _ => .fail

theorem num2_eq (n : Nat) (h : n < 100) : Lib.decDigits n = num2 n := by
  have : ∀ n, n < 100 → Lib.decDigits n = num2 n := by
    intro n hn
    unfold num2
    by_cases h10 : 10 ≤ n
    · rw [Nat.ble_eq_true_of_le h10, cond_true, Lib.decDigits, dif_neg (by omega), Lib.decDigits, dif_pos (by omega)]
      rfl
    · have : Nat.ble 10 n = false := by
        cases hb : Nat.ble 10 n
        · rfl
        · exact absurd (Nat.le_of_ble_eq_true hb) h10
      rw [this, cond_false, Lib.decDigits, dif_pos (by omega)]
      rfl
  exact this n h

theorem iso_run {C : Ctx} (hO : Ok C) {n : Nat} {f : FuncId} {args : List AV} {v : AV} (h : ((ev C n).call f args []).run.map (fun p => frz p.2 p.1) = some v) : Iso C f args v := by
  cases hr : ((ev C n).call f args []).run with
  | none => rw [hr] at h; cases h
  | some p =>
    rw [hr] at h
    obtain ⟨a, b⟩ := p
    have : frz b a = v := Option.some.inj h
    rw [← this]
    exact (iso_sound hO hr).2

theorem sum_Itoa {C : Ctx} {f : FuncId} {lo : Nat} (hf : FnOk C f) (hsmall : ∀ (i : Nat), i < 100 → ∀ w, Calls C.P f #[.int .i64 i] w fun e w' => e = .returned (.string ⟨(Lib.decDigits i).toArray⟩) ∧ w' = w)
    (hneg : AllFrom (fun k => Iso C f [.int .i64 (-(k : Int))] (.str (45 :: num2 k))) 1 lo) : SumAt C (f, sItoa lo) := by
  refine ⟨hf, fun args v hr => ?_⟩
  replace hr : (sItoa lo args).run = some v := hr
  show Iso C f args v
  unfold sItoa at hr
  split at hr
  · rename_i n
    obtain ⟨hl, hr⟩ := T.of_chk hr
    simp only [Bool.and_eq_true, leI, decide_eq_true_eq] at hl
    cases Option.some.inj hr
    by_cases h0 : 0 ≤ n
    · have e : ((n.toNat : Nat) : Int) = n := by omega
      have e2 : itoaS n = num2 n.toNat := by simp [itoaS, leI, h0]
      rw [e2]
      refine Iso.of_same (fun G => .str _) fun w vs _ ha => ?_
      obtain ⟨a, rfl, h1⟩ := ha.one
      rw [h1.of_int, ← num2_eq _ (by omega)]
      have := hsmall n.toNat (by omega) w
      rw [e] at this
      exact this
    · have e : n = -(((-n).toNat : Nat) : Int) := by omega
      have e2 : itoaS n = 45 :: num2 (-n).toNat := by simp [itoaS, leI, h0]
      rw [e2]
      have := hneg.at (-n).toNat (by omega) (by omega)
      rw [← e] at this
      exact this
  · simp [T.run] at hr
end Go.Ev
