/- Chapter 5: HandBalanced: the law of one hand, the rounds over the hands. -/
import Derived.Test.YtgellkpbcoeccaaDoorBa3
namespace Go.Proofs.YtgellkpbcoeccaaDoor
open Go Go.Ev Go.Ev.Bits

theorem s24 (g : Nat → Nat) (p : N4) (hp : p ∈ P24) : g 0 + g 1 + g 2 + g 3 = g p.1 + g p.2.1 + g p.2.2.1 + g p.2.2.2 := by
  simp only [P24, List.mem_cons, List.not_mem_nil, or_false] at hp
  rcases hp with rfl | rfl | rfl | rfl | rfl | rfl | rfl | rfl | rfl | rfl | rfl | rfl | rfl | rfl | rfl | rfl | rfl | rfl | rfl | rfl | rfl | rfl | rfl | rfl <;> first | rfl | (dsimp only; omega)
theorem s24b (g : Nat → Bool) (p : N4) (hp : p ∈ P24) : (g 0 && g 1 && g 2 && g 3) = (g p.1 && g p.2.1 && g p.2.2.1 && g p.2.2.2) := by
  simp only [P24, List.mem_cons, List.not_mem_nil, or_false] at hp
  generalize h0 : g 0 = x0
  generalize h1 : g 1 = x1
  generalize h2 : g 2 = x2
  generalize h3 : g 3 = x3
  rcases hp with rfl | rfl | rfl | rfl | rfl | rfl | rfl | rfl | rfl | rfl | rfl | rfl | rfl | rfl | rfl | rfl | rfl | rfl | rfl | rfl | rfl | rfl | rfl | rfl <;> dsimp only <;> simp only [h0, h1, h2, h3] <;> cases x0 <;> cases x1 <;> cases x2 <;> cases x3 <;> rfl
def fB (a b c d : Nat) : Bool := Nat.beq (a + b + c + d) 13 && (is4 (a, b, c, d) 4 3 3 3 || (is4 (a, b, c, d) 4 4 3 2 || is4 (a, b, c, d) 5 3 3 2))
def gB (a b c d : Nat) : Bool := (in25 a && in25 b && in25 c && in25 d) && (Nat.ble (c2 a + c2 b + c2 c + c2 d) 1 && Nat.beq (a + b + c + d) 13)
theorem tabB : ((List.range 14).all fun a => (List.range (a + 1)).all fun b => (List.range (b + 1)).all fun c => (List.range (c + 1)).all fun d => fB a b c d == gB a b c d) = true := by decide +kernel
theorem fg (a b c d : Nat) (ha : a ≤ 13) (hb : b ≤ a) (hc : c ≤ b) (hd : d ≤ c) : fB a b c d = gB a b c d := by
  have h1 := List.all_eq_true.1 tabB a (List.mem_range.2 (by omega))
  have h2 := List.all_eq_true.1 h1 b (List.mem_range.2 (by omega))
  have h3 := List.all_eq_true.1 h2 c (List.mem_range.2 (by omega))
  have h4 := List.all_eq_true.1 h3 d (List.mem_range.2 (by omega))
  exact eq_of_beq h4
/-- The law of one hand. -/
theorem bal_law (n : Nat) (hn : n < 4503599627370496) : balN n = (okN n && (Nat.ble (twoN n) 1 && Nat.beq (sumN n) 13)) := by
  obtain ⟨hp, o1, o2, o3⟩ := sui_ok n
  have e1 : rightN n = Nat.beq (sumN n) 13 := by
    unfold rightN sumN
    rw [bc_split n hn, show n / 4503599627370496 = 0 by omega, show ln n 0 + (ln n 1 + (ln n 2 + ln n 3)) = ln n 0 + ln n 1 + ln n 2 + ln n 3 by omega]
    rfl
  have e2 : sumN n = _ := s24 (ln n) (sui n) hp
  have e3 : twoN n = _ := s24 (fun s => c2 (ln n s)) (sui n) hp
  have e4 : okN n = _ := s24b (fun s => in25 (ln n s)) (sui n) hp
  unfold balN
  rw [e1, pat_sui, e2, e3, e4]
  have l0 := ln_le n (sui n).1
  have o1' := o1.1
  have o2' := o2.1
  have o3' := o3.1
  exact fg _ _ _ _ l0 o1' o2' o3'
noncomputable def cz8 (v : Nat) : Bool := leI 0 (v : Int) && (true && (true && (true && (true && (true && (true && (q9 (ln v 0) && (q9 (ln v 1) && (q9 (ln v 2) && q9 (ln v 3))))))))))
noncomputable def trO (v : Nat) (L : Option (X × List AV × Heap)) : Option (X × List AV × Heap) :=
  bif cz8 v then bif okU v then bif shut (okN v) then bif decide (((shut (twoN v) : Nat) : Int) ≤ 1) then bif !(shut (balN v) == (((shut (sumN v) : Nat) : Int) == 13)) then none else L else bif !(shut (balN v) == false) then none else L else bif !(shut (balN v) == false) then none else L else none else none
theorem trO_eq (v : Nat) (hv : v < 4503599627370496) (L : Option (X × List AV × Heap)) : trO v L = L := by
  have c : cz8 v = true := by
    unfold cz8
    simp only [q9_eq, leI_iff.2 (by omega : (0 : Int) ≤ (v : Int)), Bool.and_self]
  have o : okU v = true := by unfold okU; rw [leI_iff.2 (by omega), leI_iff.2 (by omega)]; rfl
  have hb := bal_law v hv
  unfold trO
  rw [c, o, cond_true, cond_true]
  simp only [shut_eq (okN v), shut_eq (twoN v), shut_eq (balN v), shut_eq (sumN v)]
  have e1 : decide (((twoN v : Nat) : Int) ≤ 1) = Nat.ble (twoN v) 1 := by
    cases h : Nat.ble (twoN v) 1
    · refine decide_eq_false fun h2 => ?_
      have := Nat.ble_eq_true_of_le (show twoN v ≤ 1 by omega)
      rw [this] at h; cases h
    · have := Nat.le_of_ble_eq_true h; exact decide_eq_true (by omega)
  have e2 : (((sumN v : Nat) : Int) == 13) = Nat.beq (sumN v) 13 := beq_nat (sumN v) 13
  rw [e1, e2, hb]
  cases okN v <;> cases Nat.ble (twoN v) 1 <;> cases Nat.beq (sumN v) 13 <;> rfl
section
variable (v0 v1 v2 v3 v4 v5 v6 : Nat) (a b c d : Int)
abbrev nxO (i : Int) : Option (X × List AV × Heap) := some (.n, fo8 (ls7 v0 v1 v2 v3 v4 v5 v6) i, H8 a b c d)
theorem ro8_0 : codeG C8 Z8 60 8 kp8 ct8 isN mo8 bod8_0 (fo8 (ls7 v0 v1 v2 v3 v4 v5 v6) 0) (H8 a b c d) 1 = trO v0 (nxO v0 v1 v2 v3 v4 v5 v6 a b c d 1) := by kernel_rfl
theorem ro8_1 : codeG C8 Z8 60 8 kp8 ct8 isN mo8 bod8_0 (fo8 (ls7 v0 v1 v2 v3 v4 v5 v6) 1) (H8 a b c d) 1 = trO v1 (nxO v0 v1 v2 v3 v4 v5 v6 a b c d 2) := by kernel_rfl
theorem ro8_2 : codeG C8 Z8 60 8 kp8 ct8 isN mo8 bod8_0 (fo8 (ls7 v0 v1 v2 v3 v4 v5 v6) 2) (H8 a b c d) 1 = trO v2 (nxO v0 v1 v2 v3 v4 v5 v6 a b c d 3) := by kernel_rfl
theorem ro8_3 : codeG C8 Z8 60 8 kp8 ct8 isN mo8 bod8_0 (fo8 (ls7 v0 v1 v2 v3 v4 v5 v6) 3) (H8 a b c d) 1 = trO v3 (nxO v0 v1 v2 v3 v4 v5 v6 a b c d 4) := by kernel_rfl
theorem ro8_4 : codeG C8 Z8 60 8 kp8 ct8 isN mo8 bod8_0 (fo8 (ls7 v0 v1 v2 v3 v4 v5 v6) 4) (H8 a b c d) 1 = trO v4 (nxO v0 v1 v2 v3 v4 v5 v6 a b c d 5) := by kernel_rfl
theorem ro8_5 : codeG C8 Z8 60 8 kp8 ct8 isN mo8 bod8_0 (fo8 (ls7 v0 v1 v2 v3 v4 v5 v6) 5) (H8 a b c d) 1 = trO v5 (nxO v0 v1 v2 v3 v4 v5 v6 a b c d 6) := by kernel_rfl
theorem ro8_6 : codeG C8 Z8 60 8 kp8 ct8 isN mo8 bod8_0 (fo8 (ls7 v0 v1 v2 v3 v4 v5 v6) 6) (H8 a b c d) 1 = trO v6 (nxO v0 v1 v2 v3 v4 v5 v6 a b c d 7) := by kernel_rfl
theorem ro8_7 : codeG C8 Z8 60 8 kp8 ct8 isEx mo8 bod8_0 (fo8 (ls7 v0 v1 v2 v3 v4 v5 v6) 7) (H8 a b c d) 1 = some (.ex 0, fo8 (ls7 v0 v1 v2 v3 v4 v5 v6) 7, H8 a b c d) := by kernel_rfl
theorem loopO (h0 : v0 < 4503599627370496) (h1 : v1 < 4503599627370496) (h2 : v2 < 4503599627370496) (h3 : v3 < 4503599627370496) (h4 : v4 < 4503599627370496) (h5 : v5 < 4503599627370496) (h6 : v6 < 4503599627370496) :
    Lp C8 fd8 bod8_0 (fo8 (ls7 v0 v1 v2 v3 v4 v5 v6) 0) (H8 a b c d) (.ex 0, fo8 (ls7 v0 v1 v2 v3 v4 v5 v6) 7, H8 a b c d) := by
  have dd {e : X} {vs vs1 : List AV} {want : X → Bool} (hv : vs.length = fd8.keep.length) (h : codeG C8 Z8 60 8 kp8 ct8 want mo8 bod8_0 vs (H8 a b c d) 1 = some (e, vs1, H8 a b c d)) : Does C8 fd8 bod8_0 vs (H8 a b c d) (e, vs1, H8 a b c d) := Does.runG ok8 z8 rfl rfl fdat8 hb8 bin8_0 60 hv h
  refine .on (dd rfl ((ro8_0 v0 v1 v2 v3 v4 v5 v6 a b c d).trans (trO_eq _ h0 _))) ?_
  refine .on (dd rfl ((ro8_1 v0 v1 v2 v3 v4 v5 v6 a b c d).trans (trO_eq _ h1 _))) ?_
  refine .on (dd rfl ((ro8_2 v0 v1 v2 v3 v4 v5 v6 a b c d).trans (trO_eq _ h2 _))) ?_
  refine .on (dd rfl ((ro8_3 v0 v1 v2 v3 v4 v5 v6 a b c d).trans (trO_eq _ h3 _))) ?_
  refine .on (dd rfl ((ro8_4 v0 v1 v2 v3 v4 v5 v6 a b c d).trans (trO_eq _ h4 _))) ?_
  refine .on (dd rfl ((ro8_5 v0 v1 v2 v3 v4 v5 v6 a b c d).trans (trO_eq _ h5 _))) ?_
  refine .on (dd rfl ((ro8_6 v0 v1 v2 v3 v4 v5 v6 a b c d).trans (trO_eq _ h6 _))) ?_
  exact .out (dd rfl (ro8_7 v0 v1 v2 v3 v4 v5 v6 a b c d)) (by simp)
end
end Go.Proofs.YtgellkpbcoeccaaDoor
