/- Chapter 5: cards in hands, one by one: plain Lean. -/
import Derived.Test.YtgellkpbcoeccaaDoorDe4
import Derived.Test.YtgellkpbcoeccaaDoorMore
namespace Go.Proofs.YtgellkpbcoeccaaDoor
open Go Go.Ev Go.Ev.Bits

def orL : List Nat → Nat → Nat
  | [], m => m
  | c :: L, m => orL L (m ||| 2 ^ c)
/-- What one card more adds. -/
def Adds (F w : Nat → Nat) : Prop := ∀ m c, m < 2 ^ 52 → c < 52 → m.testBit c = false → F (m ||| 2 ^ c) = F m + w c
theorem adds_fold {F w : Nat → Nat} (hF : Adds F w) : ∀ (L : List Nat) (m : Nat), L.Nodup → (∀ c ∈ L, c < 52) → (∀ c ∈ L, m.testBit c = false) → m < 2 ^ 52 → F (orL L m) = F m + (L.map w).sum
  | [], m, _, _, _, _ => rfl
  | c :: L, m, hn, hc, hb, hm => by
    obtain ⟨h1, h2⟩ := List.nodup_cons.1 hn
    have hp := pow_lt c (hc c (by simp))
    have hm' : m ||| 2 ^ c < 2 ^ 52 := Nat.or_lt_two_pow hm (by omega)
    have ih := adds_fold hF L (m ||| 2 ^ c) h2 (fun x hx => hc x (by simp [hx])) (fun x hx => by
      rw [Nat.testBit_or, hb x (by simp [hx]), tb_pow, Bool.false_or]
      exact decide_eq_false (fun e => h1 (e ▸ hx))) hm'
    show F (orL L (m ||| 2 ^ c)) = _
    rw [ih, hF m c hm (hc c (by simp)) (hb c (by simp)), List.map_cons, List.sum_cons]
    omega
theorem orL_lt : ∀ (L : List Nat) (m : Nat), (∀ c ∈ L, c < 52) → m < 2 ^ 52 → orL L m < 2 ^ 52
  | [], m, _, hm => hm
  | c :: L, m, hc, hm => orL_lt L _ (fun x hx => hc x (by simp [hx])) (Nat.or_lt_two_pow hm (by have := pow_lt c (hc c (by simp)); omega))
theorem less_same (m c : Nat) (hm : m < 2 ^ 52) (hb : m.testBit c = false) : lessN m c = m := by
  apply Nat.eq_of_testBit_eq
  intro i
  rw [lessN_tb _ _ _ (by omega)]
  by_cases e : c = i
  · subst e; rw [hb]; rfl
  · rw [decide_eq_false e]; simp
theorem more_same (m c : Nat) (hm : m < 2 ^ 52) (hb : m.testBit c = false) : moreN m c = m ||| 2 ^ c := by
  unfold moreN; rw [less_same m c hm hb]
theorem adds_hon (a b c d : Nat) : Adds (sumS (honS a b c d)) (fun x => wt a b c d (x % 13)) := by
  intro m x hm hx hb
  obtain ⟨y, e1, e2⟩ := sumS_more (honS a b c d) m x hx
  have hbit := hd_less_bit m x (by omega)
  rw [less_same m x hm hb] at e1 e2 hbit
  rw [more_same m x hm hb] at e2
  rw [e2, e1, honS_or _ _ _ _ _ _ (Nat.mod_lt _ (by omega)) (by rw [hb_tb]; exact hbit)]
  show y + (_ + wt a b c d (x % 13)) = y + _ + wt a b c d (x % 13)
  omega
theorem adds_ln (s : Nat) : Adds (fun m => ln m s) (fun x => if s = x / 13 then 1 else 0) := by
  intro m x hm hx hb
  have h1 := hd_more m x s
  have hbit := hd_less_bit m x (by omega)
  rw [less_same m x hm hb] at h1 hbit
  rw [more_same m x hm hb] at h1
  show ln (m ||| 2 ^ x) s = ln m s + if s = x / 13 then 1 else 0
  unfold ln
  rw [h1]
  by_cases e : s = x / 13
  · rw [if_pos e, if_pos e, e, bc_or 13 _ _ (Nat.mod_lt _ (by omega)) hbit]
  · rw [if_neg e, if_neg e]; rfl
theorem adds_bc : Adds (bc 64) (fun _ => 1) := by
  intro m x _ hx hb
  exact bc_or 64 x m (by omega) hb

/-! ### The order of the cards -/
theorem sw_perm (o : List Nat) (i k : Nat) (hi : i < o.length) (hk : k < o.length) : (sw o i k).Perm o := by
  have h : (sw o i k).Perm o := by
    have := List.set_set_perm hi hk
    unfold sw
    simpa [List.getD, hi, hk] using this
  exact h
theorem dealL_perm : ∀ (l : List Nat) (i : Nat) (o : List Nat), i + l.length ≤ 52 → o.length = 52 → (dealL l i o).Perm o
  | [], _, _, _, _ => List.Perm.refl _
  | z :: l, i, o, h, ho => by
    have hlt : z % (52 - i) < 52 - i := Nat.mod_lt _ (by simp at h; omega)
    refine (dealL_perm l (i + 1) _ (by simp at h; omega) (by rw [sw_len, ho])).trans (sw_perm o i _ (by simp at h; omega) (by omega))
def Lq (o : List Nat) (q : Nat) : List Nat := (List.range 13).map fun j => o.getD (13 * q + j) 0
theorem Lq_all (o : List Nat) (ho : o.length = 52) : Lq o 0 ++ (Lq o 1 ++ (Lq o 2 ++ Lq o 3)) = o := by
  have hh : List.range 52 = (List.range 13).map (fun j => 13 * 0 + j) ++ ((List.range 13).map (fun j => 13 * 1 + j) ++ ((List.range 13).map (fun j => 13 * 2 + j) ++ (List.range 13).map (fun j => 13 * 3 + j))) := by decide
  have h : (List.range 52).map (fun j => o.getD j 0) = o := by
    apply List.ext_getElem
    · simp [ho]
    · intro i h1 h2
      simp [List.getD, h2]
  rw [hh, List.map_append, List.map_append, List.map_append, List.map_map, List.map_map, List.map_map, List.map_map] at h
  exact h
/-- The cards dealt. -/
def ordN (zs : List Nat) : List Nat := dealL (zs.take 52) 0 (List.range 52)
theorem ordN_perm (zs : List Nat) : (ordN zs).Perm (List.range 52) := dealL_perm _ _ _ (by simp; omega) (by simp)
theorem ordN_len (zs : List Nat) : (ordN zs).length = 52 := by rw [(ordN_perm zs).length_eq]; simp
def hand (zs : List Nat) (q : Nat) : Nat := orL (Lq (ordN zs) q) 0
theorem four_parts (zs : List Nat) : (Lq (ordN zs) 0 ++ (Lq (ordN zs) 1 ++ (Lq (ordN zs) 2 ++ Lq (ordN zs) 3))).Perm (List.range 52) := by
  rw [Lq_all _ (ordN_len zs)]; exact ordN_perm zs
theorem parts_ok (zs : List Nat) : ∀ q, q < 4 → (Lq (ordN zs) q).Nodup ∧ ∀ c ∈ Lq (ordN zs) q, c < 52 := by
  have hp := four_parts zs
  have hn : (Lq (ordN zs) 0 ++ (Lq (ordN zs) 1 ++ (Lq (ordN zs) 2 ++ Lq (ordN zs) 3))).Nodup := hp.nodup_iff.2 List.nodup_range
  have hm : ∀ c ∈ Lq (ordN zs) 0 ++ (Lq (ordN zs) 1 ++ (Lq (ordN zs) 2 ++ Lq (ordN zs) 3)), c < 52 := fun c hc => List.mem_range.1 (hp.mem_iff.1 hc)
  have n0 := (List.nodup_append.1 hn).1
  have hn1 := (List.nodup_append.1 hn).2.1
  have n1 := (List.nodup_append.1 hn1).1
  have hn2 := (List.nodup_append.1 hn1).2.1
  have n2 := (List.nodup_append.1 hn2).1
  have n3 := (List.nodup_append.1 hn2).2.1
  intro q hq
  have : q = 0 ∨ q = 1 ∨ q = 2 ∨ q = 3 := by omega
  rcases this with rfl | rfl | rfl | rfl
  · exact ⟨n0, fun c hc => hm c (by simp [hc])⟩
  · exact ⟨n1, fun c hc => hm c (by simp [hc])⟩
  · exact ⟨n2, fun c hc => hm c (by simp [hc])⟩
  · exact ⟨n3, fun c hc => hm c (by simp [hc])⟩
theorem hand_lt (zs : List Nat) (q : Nat) (hq : q < 4) : hand zs q < 2 ^ 52 := orL_lt _ _ (parts_ok zs q hq).2 (by omega)
theorem hand_F {F w : Nat → Nat} (hF : Adds F w) (h0 : F 0 = 0) (zs : List Nat) (q : Nat) (hq : q < 4) : F (hand zs q) = ((Lq (ordN zs) q).map w).sum := by
  have := adds_fold hF (Lq (ordN zs) q) 0 (parts_ok zs q hq).1 (parts_ok zs q hq).2 (fun c _ => Nat.zero_testBit c) (by omega)
  rw [h0] at this
  unfold hand
  omega
theorem sum_F {F w : Nat → Nat} (hF : Adds F w) (h0 : F 0 = 0) (zs : List Nat) : F (hand zs 0) + (F (hand zs 1) + (F (hand zs 2) + F (hand zs 3))) = ((List.range 52).map w).sum := by
  rw [hand_F hF h0 zs 0 (by omega), hand_F hF h0 zs 1 (by omega), hand_F hF h0 zs 2 (by omega), hand_F hF h0 zs 3 (by omega)]
  have := ((four_parts zs).map w).sum_nat
  simpa [List.map_append, List.sum_append] using this
theorem hand_right (zs : List Nat) (q : Nat) (hq : q < 4) : rightN (hand zs q) = true := by
  have h1 := hand_F adds_bc (bc_zero 64) zs q hq
  have h2 := hand_lt zs q hq
  have e : ((Lq (ordN zs) q).map fun _ => 1).sum = 13 := by
    unfold Lq
    rw [List.map_map]
    show ((List.range 13).map fun _ => 1).sum = 13
    decide
  unfold rightN
  rw [h1, e, show hand zs q / 4503599627370496 = 0 by omega]
  rfl
theorem points40 (zs : List Nat) : sumS (honS 1 2 3 4) (hand zs 0) + (sumS (honS 1 2 3 4) (hand zs 1) + (sumS (honS 1 2 3 4) (hand zs 2) + sumS (honS 1 2 3 4) (hand zs 3))) = 40 :=
  (sum_F (adds_hon 1 2 3 4) (by decide) zs).trans (by decide)
theorem controls12 (zs : List Nat) : sumS (honS 0 0 1 2) (hand zs 0) + (sumS (honS 0 0 1 2) (hand zs 1) + (sumS (honS 0 0 1 2) (hand zs 2) + sumS (honS 0 0 1 2) (hand zs 3))) = 12 :=
  (sum_F (adds_hon 0 0 1 2) (by decide) zs).trans (by decide)
theorem lengths13 (zs : List Nat) (s : Nat) (hs : s < 4) : ln (hand zs 0) s + (ln (hand zs 1) s + (ln (hand zs 2) s + ln (hand zs 3) s)) = 13 := by
  have h0 : ln 0 s = 0 := by unfold ln hd; rw [Nat.zero_div]; exact bc_zero 13
  have := sum_F (adds_ln s) h0 zs
  have hd : s = 0 ∨ s = 1 ∨ s = 2 ∨ s = 3 := by omega
  rcases hd with rfl | rfl | rfl | rfl <;> exact this.trans (by decide)
end Go.Proofs.YtgellkpbcoeccaaDoor
