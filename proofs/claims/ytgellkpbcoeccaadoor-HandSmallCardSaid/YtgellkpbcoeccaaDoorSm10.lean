/- Chapter 5: the plain laws of the reference's Pattern and Suits. -/
import Derived.Test.YtgellkpbcoeccaaDoorSm9
import Derived.Test.YtgellkpbcoeccaaDoorSu3
namespace Go.Proofs.YtgellkpbcoeccaaDoor
open Go Go.Ev Go.Ev.Bits

def li4 (p : N4) : List Nat := [p.1, p.2.1, p.2.2.1, p.2.2.2]
def sel4 (a b c d : Bool) : Nat → Bool
  | 0 => a
  | 1 => b
  | 2 => c
  | _ => d
def runC (p : N4) (e : Nat → Bool) : Bool :=
  (!(e p.1 && e p.2.1) || Nat.ble (p.2.1 + 1) p.1) && (!(e p.2.1 && e p.2.2.1) || Nat.ble (p.2.2.1 + 1) p.2.1) && (!(e p.2.2.1 && e p.2.2.2) || Nat.ble (p.2.2.2 + 1) p.2.2.1)
  && (!(e p.1 && e p.2.2.1) || e p.2.1) && (!(e p.2.1 && e p.2.2.2) || e p.2.2.1) && (!(e p.1 && e p.2.2.2) || (e p.2.1 && e p.2.2.1))
theorem run_tab : ∀ p ∈ P24, ∀ a b c d : Bool, runC p (sel4 a b c d) = true → (li4 p).filter (sel4 a b c d) = [3, 2, 1, 0].filter (sel4 a b c d) := by decide +kernel
theorem sel4_eq (e : Nat → Bool) (i : Nat) (h : i < 4) : sel4 (e 0) (e 1) (e 2) (e 3) i = e i := by
  have : i = 0 ∨ i = 1 ∨ i = 2 ∨ i = 3 := by omega
  rcases this with rfl | rfl | rfl | rfl <;> rfl
/-- What a row of suits in order has of one length. -/
theorem run_eq (L : Nat → Nat) (p : N4) (hp : p ∈ P24) (o1 : L p.2.1 ≤ L p.1 ∧ (L p.2.1 = L p.1 → p.2.1 < p.1)) (o2 : L p.2.2.1 ≤ L p.2.1 ∧ (L p.2.2.1 = L p.2.1 → p.2.2.1 < p.2.1)) (o3 : L p.2.2.2 ≤ L p.2.2.1 ∧ (L p.2.2.2 = L p.2.2.1 → p.2.2.2 < p.2.2.1)) (k : Nat) :
    (li4 p).filter (fun s => L s == k) = [3, 2, 1, 0].filter (fun s => L s == k) := by
  obtain ⟨h1, h2, h3, h4⟩ := p24_lt p hp
  have key := run_tab p hp (L 0 == k) (L 1 == k) (L 2 == k) (L 3 == k) ?_
  · rw [List.filter_congr (q := sel4 (L 0 == k) (L 1 == k) (L 2 == k) (L 3 == k)), key]
    · refine List.filter_congr fun x hx => (sel4_eq (fun s => L s == k) x ?_)
      simp only [List.mem_cons, List.not_mem_nil, or_false] at hx; omega
    · intro x hx
      refine (sel4_eq (fun s => L s == k) x ?_).symm
      simp only [li4, List.mem_cons, List.not_mem_nil, or_false] at hx; omega
  · unfold runC
    rw [sel4_eq (fun s => L s == k) _ h1, sel4_eq (fun s => L s == k) _ h2, sel4_eq (fun s => L s == k) _ h3, sel4_eq (fun s => L s == k) _ h4]
    obtain ⟨a1, a2⟩ := o1
    obtain ⟨b1, b2⟩ := o2
    obtain ⟨c1, c2⟩ := o3
    have bl (x y : Nat) : Nat.ble (x + 1) y = true ↔ x < y := ⟨fun h => Nat.le_of_ble_eq_true h, fun h => Nat.ble_eq_true_of_le h⟩
    simp only [Bool.and_eq_true, Bool.or_eq_true, Bool.not_eq_true', Bool.and_eq_false_iff, beq_iff_eq, beq_eq_false_iff_ne, bl]
    generalize L p.1 = x1 at *
    generalize L p.2.1 = x2 at *
    generalize L p.2.2.1 = x3 at *
    generalize L p.2.2.2 = x4 at *
    omega
theorem filter_step {L : Nat → Nat} (k : Nat) : ∀ {X : List Nat}, X.Pairwise (fun a b => L b ≤ L a) → X.filter (fun s => decide (k ≤ L s)) = X.filter (fun s => decide (k + 1 ≤ L s)) ++ X.filter (fun s => L s == k)
  | [], _ => rfl
  | x :: X, h => by
    obtain ⟨h1, h2⟩ := List.pairwise_cons.1 h
    rw [List.filter_cons, List.filter_cons, List.filter_cons, filter_step k h2]
    rcases Nat.lt_trichotomy (L x) k with g | g | g
    · rw [if_neg (by simp; omega), if_neg (by simp; omega), if_neg (by simp; omega)]
    · have e : X.filter (fun s => decide (k + 1 ≤ L s)) = [] := by
        rw [List.filter_eq_nil_iff]
        intro y hy
        have := h1 y hy
        simp; omega
      rw [if_pos (by simp; omega), if_neg (by simp; omega), if_pos (by simp; omega), e]
      rfl
    · rw [if_pos (by simp; omega), if_pos (by simp; omega), if_neg (by simp; omega)]
      rfl
def geS (L : Nat → Nat) (p : N4) (k : Nat) : List Nat := (li4 p).filter (fun s => decide (k ≤ L s))
def suOk (L : Nat → Nat) (p : N4) : Prop := p ∈ P24 ∧ (L p.2.1 ≤ L p.1 ∧ (L p.2.1 = L p.1 → p.2.1 < p.1)) ∧ (L p.2.2.1 ≤ L p.2.1 ∧ (L p.2.2.1 = L p.2.1 → p.2.2.1 < p.2.1)) ∧ (L p.2.2.2 ≤ L p.2.2.1 ∧ (L p.2.2.2 = L p.2.2.1 → p.2.2.2 < p.2.2.1))
theorem ge_step {L : Nat → Nat} {p : N4} (h : suOk L p) (k : Nat) : geS L p k = geS L p (k + 1) ++ [3, 2, 1, 0].filter (fun s => L s == k) := by
  obtain ⟨hp, h1, h2, h3⟩ := h
  rw [← run_eq L p hp h1 h2 h3]
  refine filter_step k ?_
  simp only [li4, List.pairwise_cons, List.mem_cons, List.not_mem_nil, or_false, forall_eq_or_imp, forall_eq, List.Pairwise.nil, false_imp_iff, implies_true, and_true]
  omega
theorem ge_zero (L : Nat → Nat) (p : N4) : geS L p 0 = li4 p := by
  unfold geS
  simp
theorem ge_top (L : Nat → Nat) (p : N4) (k : Nat) (h : ∀ s, L s < k) : geS L p k = [] := by
  unfold geS
  rw [List.filter_eq_nil_iff]
  intro s _
  have := h s
  simp; omega

/-! ### Pattern -/
def aDP (t : List UInt8) (n : Nat) : List UInt8 := bif t.isEmpty then t ++ num2 n else t ++ [45] ++ num2 n
def sTP (L : Nat → Nat) (n s : Nat) (t : List UInt8) : List UInt8 := bif Nat.beq (L s) n then aDP t n else t
def iNP (L : Nat → Nat) (n : Nat) (t : List UInt8) : List UInt8 := sTP L n 3 (sTP L n 2 (sTP L n 1 (sTP L n 0 t)))
def oUP (L : Nat → Nat) : Nat → List UInt8
  | 0 => []
  | i + 1 => iNP L (13 - i) (oUP L i)
theorem nbeq (a b : Nat) : Nat.beq a b = (a == b) := Bool.eq_iff_iff.2 (by rw [Nat.beq_eq, beq_iff_eq])
theorem sTP_eq (L : Nat → Nat) (n s : Nat) (t : List UInt8) : sTP L n s t = (([s].filter (fun s => L s == n)).map L).foldl aDP t := by
  unfold sTP
  rw [nbeq, List.filter_cons]
  cases h : (L s == n)
  · rfl
  · rw [beq_iff_eq] at h
    subst h
    rfl
theorem iNP_eq (L : Nat → Nat) (n : Nat) (t : List UInt8) : iNP L n t = (([3, 2, 1, 0].filter (fun s => L s == n)).map L).foldl aDP t := by
  have e : ([3, 2, 1, 0].filter (fun s => L s == n)).map L = ([0].filter (fun s => L s == n) ++ ([1].filter (fun s => L s == n) ++ ([2].filter (fun s => L s == n) ++ [3].filter (fun s => L s == n)))).map L := by
    simp only [List.filter_cons, List.filter_nil]
    cases h0 : (L 0 == n) <;> cases h1 : (L 1 == n) <;> cases h2 : (L 2 == n) <;> cases h3 : (L 3 == n) <;> simp_all
  rw [e, List.map_append, List.map_append, List.map_append, List.foldl_append, List.foldl_append, List.foldl_append]
  unfold iNP
  rw [sTP_eq, sTP_eq, sTP_eq, sTP_eq]
theorem oUP_eq {L : Nat → Nat} {p : N4} (h : suOk L p) (h13 : ∀ s, L s ≤ 13) : ∀ i, i ≤ 14 → oUP L i = ((geS L p (14 - i)).map L).foldl aDP []
  | 0, _ => by
    rw [ge_top L p (14 - 0) (fun s => by have := h13 s; omega)]; rfl
  | i + 1, hi => by
    have e1 : 14 - (i + 1) = 13 - i := by omega
    have e2 : 14 - i = 13 - i + 1 := by omega
    rw [e1, ge_step h (13 - i), List.map_append, List.foldl_append, ← e2, ← oUP_eq h h13 i (by omega), ← iNP_eq]
    rfl
theorem num2_ne (n : Nat) (t : List UInt8) : (t ++ num2 n).isEmpty = false := by
  have : num2 n ≠ [] := by unfold num2; cases Nat.ble 10 n <;> simp
  simp [this]
theorem oUP_pStr {L : Nat → Nat} {p : N4} (h : suOk L p) (h13 : ∀ s, L s ≤ 13) : oUP L 14 = pStr (L p.1, L p.2.1, L p.2.2.1, L p.2.2.2) := by
  rw [oUP_eq h h13 14 (Nat.le_refl _), Nat.sub_self, ge_zero]
  show aDP (aDP (aDP (aDP [] (L p.1)) (L p.2.1)) (L p.2.2.1)) (L p.2.2.2) = _
  have a (t : List UInt8) (x y : Nat) : aDP (t ++ num2 x) y = t ++ num2 x ++ [45] ++ num2 y := by
    unfold aDP; rw [num2_ne]; rfl
  have a0 : aDP [] (L p.1) = [] ++ num2 (L p.1) := rfl
  rw [a0, a, a, a]
  rfl
theorem aDP_len (t : List UInt8) (n : Nat) : (aDP t n).length ≤ t.length + 3 := by
  have := num2_len n
  unfold aDP
  cases t.isEmpty <;> simp <;> omega
theorem sTP_len (L : Nat → Nat) (n s : Nat) (t : List UInt8) : (sTP L n s t).length ≤ t.length + 3 := by
  have := aDP_len t n
  unfold sTP
  cases Nat.beq (L s) n <;> simp <;> omega
theorem iNP_len (L : Nat → Nat) (n : Nat) (t : List UInt8) : (iNP L n t).length ≤ t.length + 12 := by
  have h0 := sTP_len L n 0 t
  have h1 := sTP_len L n 1 (sTP L n 0 t)
  have h2 := sTP_len L n 2 (sTP L n 1 (sTP L n 0 t))
  have h3 := sTP_len L n 3 (sTP L n 2 (sTP L n 1 (sTP L n 0 t)))
  unfold iNP
  omega
theorem oUP_len (L : Nat → Nat) : ∀ i, (oUP L i).length ≤ 12 * i
  | 0 => by simp [oUP]
  | i + 1 => by
    have := oUP_len L i
    have := iNP_len L (13 - i) (oUP L i)
    show (iNP L (13 - i) (oUP L i)).length ≤ _
    omega

/-! ### Suits: the list so far -/
def sTS (L : Nat → Nat) (n s : Nat) (l : List Nat) : List Nat := bif Nat.beq (L s) n then l ++ [s] else l
def iNS (L : Nat → Nat) (n : Nat) (l : List Nat) : List Nat := sTS L n 0 (sTS L n 1 (sTS L n 2 (sTS L n 3 l)))
theorem iNS_eq (L : Nat → Nat) (n : Nat) (l : List Nat) : iNS L n l = l ++ [3, 2, 1, 0].filter (fun s => L s == n) := by
  unfold iNS sTS
  simp only [nbeq, List.filter_cons, List.filter_nil]
  cases (L 0 == n) <;> cases (L 1 == n) <;> cases (L 2 == n) <;> cases (L 3 == n) <;> simp
theorem iNS_ge {L : Nat → Nat} {p : N4} (h : suOk L p) (k : Nat) : iNS L k (geS L p (k + 1)) = geS L p k := by
  rw [iNS_eq, ← ge_step h]
theorem ge_len (L : Nat → Nat) (p : N4) (k : Nat) : (geS L p k).length ≤ 4 := Nat.le_trans (List.length_filter_le _ _) (Nat.le_refl 4)
theorem sui_suOk (n : Nat) : suOk (ln n) (sui n) := sui_ok n
theorem oUP_pat (n : Nat) : oUP (ln n) 14 = pStr (pat n) := by
  rw [pat_sui]
  exact oUP_pStr (sui_suOk n) (ln_le n)
end Go.Proofs.YtgellkpbcoeccaaDoor
