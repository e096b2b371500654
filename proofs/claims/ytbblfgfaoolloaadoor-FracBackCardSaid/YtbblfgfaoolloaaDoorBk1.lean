/- Chapter 1: texts of fractions, what is read of a string: the plain laws. -/
import Derived.Test.YtbblfgfaoolloaaDoorF1
import Derived.Lib.AtoiAll
import Derived.Lib.ItoaNum
import Derived.Lib.Bytealg
namespace Go.Proofs.YtbblfgfaoolloaaDoor
open Go.Lib
def isDg (c : UInt8) : Prop := 48 ≤ c.toNat ∧ c.toNat ≤ 57
theorem dgt (k : Nat) (h : k < 10) : (UInt8.ofNat (48 + k)).toNat = 48 + k := by
  rw [UInt8.toNat_ofNat']; omega
theorem dd_chars (u : Nat) : ∀ c ∈ decDigits u, isDg c := by
  induction u using Nat.strongRecOn with
  | _ u ih =>
    rw [decDigits]
    split
    · rename_i h
      intro c hc
      rw [List.mem_singleton] at hc
      subst hc
      unfold isDg; rw [dgt u h]; omega
    · rename_i h
      intro c hc
      rcases List.mem_append.1 hc with hc | hc
      · exact ih (u / 10) (by omega) c hc
      · rw [List.mem_singleton] at hc
        subst hc
        unfold isDg; rw [dgt _ (by omega)]; omega
theorem dd_ne (u : Nat) : decDigits u ≠ [] := by
  rw [decDigits]; split <;> simp
theorem dd_head (u : Nat) (hu : 0 < u) : ∃ c r, decDigits u = c :: r ∧ c.toNat ≠ 48 ∧ isDg c := by
  induction u using Nat.strongRecOn with
  | _ u ih =>
    rw [decDigits]
    split
    · rename_i h
      exact ⟨_, [], rfl, by rw [dgt u h]; omega, by unfold isDg; rw [dgt u h]; omega⟩
    · rename_i h
      obtain ⟨c, r, h1, h2, h3⟩ := ih (u / 10) (by omega) (by omega)
      exact ⟨c, r ++ [UInt8.ofNat (48 + u % 10)], by rw [h1]; rfl, h2, h3⟩
theorem pu_app : ∀ (l r : List UInt8) (acc v : Nat), parseUint10 acc l = .ok v → parseUint10 acc (l ++ r) = parseUint10 v r
  | [], r, acc, v, h => by
    simp only [parseUint10] at h
    injection h with h
    subst h; rfl
  | c :: l, r, acc, v, h => by
    simp only [parseUint10] at h
    rw [List.cons_append]
    simp only [parseUint10]
    split at h
    · rename_i h1
      rw [if_pos h1]
      split at h
      · cases h
      · rename_i h2
        rw [if_neg h2]
        split at h
        · cases h
        · rename_i h3
          rw [if_neg h3]
          exact pu_app l r _ v h
    · cases h
theorem pu_dd (u : Nat) (hu : u < 18446744073709551616) : parseUint10 0 (decDigits u) = .ok u := by
  induction u using Nat.strongRecOn with
  | _ u ih =>
    rw [decDigits]
    split
    · rename_i h
      simp only [parseUint10]
      rw [dgt u h, if_pos (by omega), if_neg (by omega), if_neg (by omega)]
      simp
    · rename_i h
      rw [pu_app _ _ _ _ (ih (u / 10) (by omega) (by omega))]
      simp only [parseUint10]
      rw [dgt _ (by omega), if_pos (by omega), if_neg (by omega), if_neg (by omega)]
      congr 1
      omega
theorem pm_dd (u : Nat) (hu : u < 18446744073709551616) : parseMag (decDigits u) = .ok u := by
  unfold parseMag
  rw [if_neg (dd_ne u), pu_dd u hu]
theorem it_cases (n : Int) : (n < 0 ∧ itoa n = 45 :: decDigits n.natAbs) ∨ (0 ≤ n ∧ itoa n = decDigits n.toNat) := by
  unfold itoa
  by_cases h : n < 0
  · exact .inl ⟨h, by rw [if_pos h]⟩
  · exact .inr ⟨by omega, by rw [if_neg h]⟩
theorem it_ne (n : Int) : itoa n ≠ [] := by
  rcases it_cases n with ⟨_, h⟩ | ⟨_, h⟩ <;> rw [h]
  · simp
  · exact dd_ne _
theorem it_chars (n : Int) : ∀ c ∈ itoa n, isDg c ∨ c.toNat = 45 := by
  intro c hc
  rcases it_cases n with ⟨_, h⟩ | ⟨_, h⟩ <;> rw [h] at hc
  · rcases List.mem_cons.1 hc with rfl | hc
    · exact .inr rfl
    · exact .inl (dd_chars _ c hc)
  · exact .inl (dd_chars _ c hc)
theorem it_no (n : Int) : (47 : UInt8) ∉ itoa n := fun h => by
  rcases it_chars n 47 h with ⟨h1, _⟩ | h1
  · exact absurd h1 (by decide)
  · exact absurd h1 (by decide)
theorem atoi_it (n : Int) (h0 : -9223372036854775808 ≤ n) (h1 : n ≤ 9223372036854775807) : atoiAll (itoa n) = .ok n := by
  rcases it_cases n with ⟨hn, h⟩ | ⟨hn, h⟩ <;> rw [h]
  · unfold atoiAll
    simp only [show (45 : UInt8).toNat = 45 from rfl, or_true, if_true]
    rw [pm_dd _ (by omega)]
    simp only [not_true_eq_false, false_and, if_false, true_and]
    rw [if_neg (by omega)]
    congr 1
    omega
  · have hp := pm_dd n.toNat (by omega)
    have hc := dd_chars n.toNat
    have hne := dd_ne n.toNat
    cases hd : decDigits n.toNat with
    | nil => exact absurd hd hne
    | cons c r =>
      rw [hd] at hp hc
      have h2 := hc c (by simp)
      obtain ⟨h3, h4⟩ := h2
      unfold atoiAll
      simp only
      rw [if_neg (by omega), hp]
      simp only
      have h45 : ¬ c.toNat = 45 := by omega
      simp only [h45, not_false_eq_true, true_and, false_and, if_false]
      rw [if_neg (by omega)]
      congr 1
      omega
/-- The text of a fraction. -/
def txt (n d : Int) : List UInt8 := itoa n ++ (bif decide (d > 1) then 47 :: itoa d else [])
/-- Cut at the first slash. -/
def spl : List UInt8 → List UInt8 × Option (List UInt8)
  | [] => ([], none)
  | c :: r => if c = 47 then ([], some r) else (c :: (spl r).1, (spl r).2)
theorem spl_no : ∀ {x : List UInt8}, (47 : UInt8) ∉ x → spl x = (x, none)
  | [], _ => rfl
  | c :: r, h => by
    have h1 : c ≠ 47 := fun e => h (by rw [e]; simp)
    have h2 : (47 : UInt8) ∉ r := fun e => h (by simp [e])
    unfold spl
    rw [if_neg h1, spl_no h2]
theorem spl_at : ∀ {x : List UInt8} (y : List UInt8), (47 : UInt8) ∉ x → spl (x ++ 47 :: y) = (x, some y)
  | [], y, _ => by rw [List.nil_append]; unfold spl; rw [if_pos rfl]
  | c :: r, y, h => by
    have h1 : c ≠ 47 := fun e => h (by rw [e]; simp)
    have h2 : (47 : UInt8) ∉ r := fun e => h (by simp [e])
    rw [List.cons_append]
    unfold spl
    rw [if_neg h1, spl_at y h2]
theorem spl_txt (n d : Int) : spl (txt n d) = (itoa n, bif decide (d > 1) then some (itoa d) else none) := by
  unfold txt
  cases decide (d > 1)
  · simp only [cond_false, List.append_nil]; exact spl_no (it_no n)
  · exact spl_at _ (it_no n)
def rdF (s : List UInt8) : Int × Int × Int :=
  match atoiAll (spl s).1, atoiAll ((spl s).2.getD [49]) with
  | .ok a, .ok b => bif rtN a b && (txt a b == s) then (a, b, 0) else (0, 0, 10)
  | _, _ => (0, 0, 10)
theorem rdF_txt {n d : Int} (hr : rtN n d = true) (hn : -9223372036854775808 ≤ n ∧ n ≤ 9223372036854775807) (hd : d ≤ 9223372036854775807) : rdF (txt n d) = (n, d, 0) := by
  have hd0 : 0 < d := by
    unfold rtN at hr
    simp only [Bool.and_eq_true, decide_eq_true_eq] at hr
    exact hr.1
  have e : atoiAll ((bif decide (d > 1) then some (itoa d) else none).getD [49]) = .ok d := by
    by_cases h : d > 1
    · rw [decide_eq_true h]; exact atoi_it d (by omega) hd
    · have : d = 1 := by omega
      subst this; decide
  unfold rdF
  rw [spl_txt, e, atoi_it n hn.1 hn.2]
  simp only
  rw [hr, beq_self_eq_true]
  rfl
theorem rdF_no {s : List UInt8} (h : ∀ a b, rtN a b = true → txt a b ≠ s) : rdF s = (0, 0, 10) := by
  unfold rdF
  split
  · rename_i a b _ _
    cases hr : rtN a b
    · rfl
    · have : (txt a b == s) = false := by simpa using h a b hr
      rw [this]; rfl
  · rfl
theorem txt_head (a b : Int) : ∃ c r, txt a b = c :: r ∧ (isDg c ∨ c.toNat = 45) := by
  have h := it_chars a
  unfold txt
  cases e : itoa a with
  | nil => exact absurd e (it_ne a)
  | cons c r => exact ⟨c, _, rfl, h c (by rw [e]; simp)⟩
theorem no_head (c : UInt8) (s : List UInt8) (h : ¬ (isDg c ∨ c.toNat = 45)) (a b : Int) : txt a b ≠ c :: s := by
  intro e
  obtain ⟨c', r, h1, h2⟩ := txt_head a b
  rw [e] at h1
  cases h1
  exact h h2
theorem no_zero (s : List UInt8) (hs : s ≠ []) (a b : Int) (hr : rtN a b = true) : txt a b ≠ 48 :: s := by
  intro e
  have ha : a = 0 := by
    rcases it_cases a with ⟨h1, h2⟩ | ⟨h1, h2⟩
    · unfold txt at e; rw [h2] at e; cases e
    · rcases Nat.eq_zero_or_pos a.toNat with h | h
      · omega
      · obtain ⟨c, r, h3, h4, _⟩ := dd_head a.toNat h
        unfold txt at e
        rw [h2, h3] at e
        cases e
        exact absurd rfl h4
  subst ha
  unfold rtN at hr
  simp only [Bool.and_eq_true, decide_eq_true_eq, Nat.beq_eq] at hr
  obtain ⟨h1, h2⟩ := hr
  rw [show Int.natAbs 0 = 0 from rfl, Nat.gcd_zero_left] at h2
  have hb : b = 1 := by omega
  subst hb
  have e2 : txt 0 1 = [48] := by unfold txt itoa; rw [if_neg (by omega), decDigits, dif_pos (by decide)]; rfl
  rw [e2] at e
  cases e
  exact hs rfl
theorem txt_chars (a b : Int) : ∀ c ∈ txt a b, isDg c ∨ c.toNat = 45 ∨ c.toNat = 47 := by
  intro c hc
  unfold txt at hc
  rcases List.mem_append.1 hc with h | h
  · rcases it_chars a c h with h | h
    · exact .inl h
    · exact .inr (.inl h)
  · cases hd : decide (b > 1)
    · rw [hd] at h; cases h
    · rw [hd] at h
      rcases List.mem_cons.1 h with rfl | h
      · exact .inr (.inr rfl)
      · rcases it_chars b c h with h | h
        · exact .inl h
        · exact .inr (.inl h)
theorem no_blank (s : List UInt8) (a b : Int) : txt a b ≠ s ++ [32] := by
  intro e
  have := txt_chars a b 32 (by rw [e]; simp)
  rcases this with ⟨h, _⟩ | h | h <;> exact absurd h (by decide)
theorem no_tail (n d : Int) (t : List UInt8) (a b : Int) (hb : b ≤ 9223372036854775807) (ht : t = [] ∨ t = [49]) : txt a b ≠ txt n d ++ 47 :: t := by
  intro e
  have e1 : spl (txt n d ++ 47 :: t) = (itoa n, some (bif decide (d > 1) then itoa d ++ 47 :: t else t)) := by
    unfold txt
    cases decide (d > 1)
    · simp only [cond_false, List.append_nil]; exact spl_at _ (it_no n)
    · simp only [cond_true, List.append_assoc, List.cons_append]; exact spl_at _ (it_no n)
  rw [← e, spl_txt] at e1
  cases hb1 : decide (b > 1)
  · rw [hb1] at e1
    have := congrArg Prod.snd e1
    cases this
  · rw [hb1] at e1
    rw [decide_eq_true_eq] at hb1
    have e2 : itoa b = bif decide (d > 1) then itoa d ++ 47 :: t else t := by
      have := congrArg Prod.snd e1
      exact Option.some.inj this
    cases hd : decide (d > 1)
    · rw [hd, cond_false] at e2
      rcases ht with rfl | rfl
      · exact it_ne b e2
      · have h1 := atoi_it b (by omega) hb
        rw [e2] at h1
        have h2 : atoiAll [49] = .ok 1 := by decide
        rw [h2] at h1
        injection h1 with h1
        omega
    · rw [hd, cond_true] at e2
      exact it_no b (by rw [e2]; simp)
/-! ### Where the slash is -/
theorem ib_no : ∀ {x : List UInt8}, (47 : UInt8) ∉ x → Go.Lib.indexByte x 47 = -1
  | [], _ => rfl
  | c :: r, h => by
    have h1 : (c == 47) = false := by simpa using fun e : c = 47 => h (by rw [e]; simp)
    have h2 : (47 : UInt8) ∉ r := fun e => h (by simp [e])
    unfold Go.Lib.indexByte
    rw [h1, ib_no h2]
    rfl
theorem ib_at : ∀ {x : List UInt8} (y : List UInt8), (47 : UInt8) ∉ x → Go.Lib.indexByte (x ++ 47 :: y) 47 = (x.length : Int)
  | [], y, _ => rfl
  | c :: r, y, h => by
    have h1 : (c == 47) = false := by simpa using fun e : c = 47 => h (by rw [e]; simp)
    have h2 : (47 : UInt8) ∉ r := fun e => h (by simp [e])
    rw [List.cons_append]
    unfold Go.Lib.indexByte
    rw [h1, ib_at y h2]
    have : ((r.length : Int) == -1) = false := by rw [beq_eq_false_iff_ne]; omega
    simp only [this, List.length_cons, Bool.false_eq_true, if_false]
    omega
theorem spl_or : ∀ (s : List UInt8), ((47 : UInt8) ∉ s ∧ spl s = (s, none)) ∨ ∃ x y, (47 : UInt8) ∉ x ∧ s = x ++ 47 :: y ∧ spl s = (x, some y)
  | [] => .inl ⟨by simp, rfl⟩
  | c :: r => by
    by_cases h : c = 47
    · subst h
      exact .inr ⟨[], r, by simp, rfl, by unfold spl; rw [if_pos rfl]⟩
    · rcases spl_or r with ⟨h1, h2⟩ | ⟨x, y, h1, h2, h3⟩
      · have hn : (47 : UInt8) ∉ c :: r := by
          intro e
          rcases List.mem_cons.1 e with e | e
          · exact h e.symm
          · exact h1 e
        exact .inl ⟨hn, spl_no hn⟩
      · have hn : (47 : UInt8) ∉ c :: x := by
          intro e
          rcases List.mem_cons.1 e with e | e
          · exact h e.symm
          · exact h1 e
        refine .inr ⟨c :: x, y, hn, by rw [h2]; rfl, ?_⟩
        rw [h2]
        exact spl_at y hn
end Go.Proofs.YtbblfgfaoolloaaDoor
