/- Chapter 5: Dealt: all cards are exchanged. -/
import Derived.Test.YtgellkpbcoeccaaDoorDe2
namespace Go.Proofs.YtgellkpbcoeccaaDoor
open Go Go.Ev Go.Ev.Bits

def ints (o : List Nat) : List AV := o.map fun z => .int .i64 (z : Nat)
def u8s (zs : List Nat) : List AV := zs.map fun z => .int .u8 (z : Nat)
def sw (o : List Nat) (i k : Nat) : List Nat := (o.set i (o.getD k 0)).set k (o.getD i 0)
def dealL : List Nat → Nat → List Nat → List Nat
  | [], _, o => o
  | z :: zs, i, o => dealL zs (i + 1) (sw o i (i + z % (52 - i)))
theorem sw_len (o : List Nat) (i k : Nat) : (sw o i k).length = o.length := by unfold sw; simp
theorem map_getD {α : Type} (f : α → AV) (l : List α) (a : α) (i : Nat) (h : i < l.length) : (l.map f).getD i .undef = f (l.getD i a) := by
  simp [List.getD, h]
theorem xv_eq (zs : List Nat) (i : Nat) (h : i < zs.length) : xv (u8s zs) i = .int .u8 (zs.getD i 0 : Nat) := by
  unfold xv u8s
  rw [nth_eq, Nat.mul_one, List.getD, List.getElem?_drop, Nat.add_zero, ← List.getD, map_getD _ _ 0 _ h]
theorem kI_eq (zs : List Nat) (i : Nat) (h : i < zs.length) (hi : i < 52) (hz : ∀ z ∈ zs, z ≤ 255) : kI (u8s zs) i = ((i + zs.getD i 0 % (52 - i) : Nat) : Int) := by
  unfold kI
  rw [xv_eq zs i h]
  have hm : zs.getD i 0 ∈ zs := by simp [List.getD, h]
  have := hz _ hm
  generalize zs.getD i 0 = z at *
  show IntKind.i64.wrap ((i : Int) + (IntKind.i64.wrap ((z : Nat) : Int)).tmod (IntKind.i64.wrap (52 - (i : Int)))) = _
  have e : (52 : Int) - (i : Int) = ((52 - i : Nat) : Int) := by omega
  rw [i64w (n := (z : Int)) (by omega), i64w (n := 52 - (i : Int)) (by omega), e]
  have e2 : ((z : Nat) : Int).tmod ((52 - i : Nat) : Int) = ((z % (52 - i) : Nat) : Int) := rfl
  have hlt : z % (52 - i) < 52 - i := Nat.mod_lt _ (by omega)
  rw [e2, i64w (by omega)]
  omega
theorem setL_one (l : List AV) (i : Nat) (v : AV) : setL l i [v] = l.set i v := rfl
theorem conds_ok (zs o : List Nat) (i : Nat) (h : i < zs.length) (hl : zs.length ≤ 52) (hz : ∀ z ∈ zs, z ≤ 255) (ho : o.length = 52) : (conds zs.length (u8s zs) (ints o) i).all id = true ∧ cs2 (u8s zs) (ints o) i = ints (sw o i (i + zs.getD i 0 % (52 - i))) := by
  have hk := kI_eq zs i h (by omega) hz
  have hlt : zs.getD i 0 % (52 - i) < 52 - i := Nat.mod_lt _ (by omega)
  have hx := xv_eq zs i h
  generalize hkk : i + zs.getD i 0 % (52 - i) = k at *
  have hk52 : k < 52 := by omega
  have hil : i < o.length := by omega
  have hkl : k < o.length := by omega
  have gi : (ints o).getD (0 + i * 1) .undef = .int .i64 (o.getD i 0 : Nat) := by rw [Nat.zero_add, Nat.mul_one]; exact map_getD _ _ 0 _ hil
  have gk : (ints o).getD (0 + (kI (u8s zs) i).toNat * 1) .undef = .int .i64 (o.getD k 0 : Nat) := by rw [hk, Int.toNat_natCast, Nat.zero_add, Nat.mul_one]; exact map_getD _ _ 0 _ hkl
  have hcs1 : cs1 (u8s zs) (ints o) i = ints (o.set i (o.getD k 0)) := by
    unfold cs1 vk
    rw [gk, setL_one, Nat.zero_add, Nat.mul_one]
    unfold ints
    rw [List.map_set]
    rfl
  constructor
  · unfold conds
    rw [gi, gk, hcs1, hk, hx, Int.toNat_natCast]
    have hw : decide (IntKind.i64.wrap (52 - (i : Int)) = 0) = false := by
      rw [i64w (by omega)]; exact decide_eq_false (by omega)
    have ll : (ints o).length = 52 := by unfold ints; simp [ho]
    have ll2 : (ints (o.set i (o.getD k 0))).length = 52 := by unfold ints; simp [ho]
    have ld : 1 ≤ ((u8s zs).drop (i * 1)).length := by unfold u8s; simp; omega
    rw [hw, ll, ll2, decide_eq_true (by omega : (i : Int) < (zs.length : Int)), decide_eq_true (by omega : (i : Int) < 52), decide_eq_true (by omega : ((k : Nat) : Int) < 52), leI_iff.2 (by omega : (0 : Int) ≤ (i : Int)), leI_iff.2 (by omega : (0 : Int) ≤ ((k : Nat) : Int)), Nat.ble_eq_true_of_le ld, Nat.ble_eq_true_of_le (by omega : 0 + k * 1 + 1 ≤ 52), Nat.ble_eq_true_of_le (by omega : 0 + i * 1 + 1 ≤ 52)]
    rfl
  · unfold cs2 vi
    rw [hcs1, gi, hk, Int.toNat_natCast, setL_one, Nat.zero_add, Nat.mul_one]
    unfold ints sw
    rw [List.map_set, List.map_set, List.map_set]
    rfl
theorem loop25 (B0 : Option Blk) (b : Bool) (zs : List Nat) (hl : zs.length ≤ 52) (hz : ∀ z ∈ zs, z ≤ 255) : ∀ (l pre o : List Nat), zs = pre ++ l → o.length = 52 →
    Lp C6 fd25 bod25_2 (fr25 b zs.length (u8s zs) (pre.length : Nat)) [B0, some ⟨50, ints o⟩] (.ex 2, fr25 b zs.length (u8s zs) (zs.length : Nat), [B0, some ⟨50, ints (dealL l pre.length o)⟩])
  | [], pre, o, h, ho => by
    have e : pre.length = zs.length := by rw [h]; simp
    rw [e]
    refine .out (Does.runG ok6 noZ6 rfl rfl fdat25 hb25 bin25_2 60 rfl ((r25x B0 b zs.length zs.length (u8s zs) (ints o)).trans ?_)) (by simp)
    rw [decide_eq_false (by omega), cond_false]
    rfl
  | z :: l, pre, o, h, ho => by
    have hlen : zs.length = pre.length + (l.length + 1) := by rw [h]; simp
    have hg : zs.getD pre.length 0 = z := by rw [h]; simp
    obtain ⟨h1, h2⟩ := conds_ok zs o pre.length (by omega) hl hz ho
    rw [hg] at h2
    have ih := loop25 B0 b zs hl hz l (pre ++ [z]) (sw o pre.length (pre.length + z % (52 - pre.length))) (by rw [h]; simp) (by rw [sw_len, ho])
    have e1 : (pre ++ [z]).length = pre.length + 1 := by simp
    rw [e1] at ih
    refine .on (Does.runG ok6 noZ6 rfl rfl fdat25 hb25 bin25_2 60 rfl ((r25 B0 b zs.length pre.length (u8s zs) (ints o)).trans (chain_eq h1))) ?_
    rw [h2, i64w (by omega)]
    exact ih
/-! ### Into a table -/
def u8B (v : AV) : Bool := v.isI .u8 && (leI 0 v.toI && leI v.toI 255)
def initB : List AV → Nat → Bool
  | [], j => Nat.beq j 52
  | .int .i64 n :: l, j => (n == (j : Int)) && initB l (j + 1)
  | _, _ => false
theorem initB_eq : ∀ (l : List AV) (j : Nat), initB l j = true → l = ints (List.range' j l.length) ∧ j + l.length = 52
  | [], j, h => ⟨rfl, by simpa [initB] using Nat.eq_of_beq_eq_true h⟩
  | v :: l, j, h => by
    have key : ∃ n : Int, v = .int .i64 n ∧ n = (j : Int) ∧ initB l (j + 1) = true := by
      unfold initB at h
      split at h
      · rename_i heq
        cases heq
      · rename_i n l' heq
        cases heq
        simp only [Bool.and_eq_true, beq_iff_eq] at h
        exact ⟨n, rfl, h.1, h.2⟩
      · cases h
    obtain ⟨n, rfl, rfl, h2⟩ := key
    obtain ⟨e1, e2⟩ := initB_eq l (j + 1) h2
    refine ⟨?_, by simp; omega⟩
    rw [List.length_cons, List.range'_succ]
    show _ :: l = _ :: ints (List.range' (j + 1) l.length)
    rw [← e1]
theorem u8s_of : ∀ (l : List AV), l.all u8B = true → l = u8s (l.map fun v => v.toI.toNat) ∧ ∀ z ∈ l.map (fun v => v.toI.toNat), z ≤ 255
  | [], _ => ⟨rfl, by simp⟩
  | v :: l, h => by
    simp only [List.all_cons, Bool.and_eq_true] at h
    obtain ⟨e1, e2⟩ := u8s_of l h.2
    have h1 := h.1
    unfold u8B at h1
    simp only [Bool.and_eq_true, leI_iff] at h1
    obtain ⟨h3, h4, h5⟩ := h1
    have hv : v = .int .u8 (v.toI.toNat : Nat) := by
      cases v with
      | int k n =>
        have hk : k = .u8 := by simpa [AV.isI] using h3
        subst hk
        have : 0 ≤ n := h4
        show AV.int .u8 n = AV.int .u8 ((n.toNat : Nat) : Int)
        rw [Int.toNat_of_nonneg this]
      | _ => cases h3
    refine ⟨?_, fun z hzm => ?_⟩
    · show v :: l = AV.int .u8 (v.toI.toNat : Nat) :: u8s (l.map fun v => v.toI.toNat)
      rw [← e1, ← hv]
    · rw [List.map_cons, List.mem_cons] at hzm
      rcases hzm with rfl | hzm
      · omega
      · exact e2 z hzm
noncomputable def dealC (ls : List AV) : List AV := (List.range 52).map fun j => .int .i64 (((shut (dealL (ls.map fun v => v.toI.toNat) 0 (List.range 52))).getD j 0 : Nat) : Int)
theorem ints_range (o : List Nat) (ho : o.length = 52) : (List.range 52).map (fun j => AV.int .i64 ((o.getD j 0 : Nat) : Int)) = ints o := by
  unfold ints
  apply List.ext_getElem
  · simp [ho]
  · intro i h1 h2
    simp at h1
    simp [List.getD, show i < o.length by omega]
theorem dealL_len : ∀ (l : List Nat) (i : Nat) (o : List Nat), (dealL l i o).length = o.length
  | [], _, _ => rfl
  | z :: l, i, o => by unfold dealL; rw [dealL_len l, sw_len]
noncomputable def l25 : SumF := fun vs H => match vs, H with
  | [_x0, .own 0 0, .own 1 0, _x3, _x4, _x5, _x6, _x7, _x8, _x9, _x10, _x11, .ro _b len ls, .int .i64 n, .int .i64 i, _y0, _y1, _y2, _y3], [B0, some ⟨50, cs⟩] =>
    .chk (n == (len : Int) && (i == 0 && (Nat.ble len 52 && (Nat.beq ls.length len && (ls.all u8B && initB cs 0))))) (.leaf (.n, [.undef, .own 0 0, .own 1 0, .undef, .undef, .undef, .undef, .undef, .undef, .undef, .undef, .undef, .undef, .undef, .undef, .undef, .undef, .undef, .undef], [B0, some ⟨50, dealC ls⟩]))
  | _, _ => .fail
theorem zl25 : ZEnt C6 (25, isBlk 2, lenF l25) := zent_does fdat25 hb25 one25_2 fun vs H q hv hr => by
  unfold l25 at hr
  split at hr
  · rename_i x0 x3 x4 x5 x6 x7 x8 x9 x10 x11 b len ls n i y0 y1 y2 y3 B0 cs
    obtain ⟨hc, hr2⟩ := T.of_chk hr
    clear hr
    simp only [Bool.and_eq_true, beq_iff_eq, Nat.ble_eq] at hc
    obtain ⟨rfl, rfl, h52, hlen, hu, hi⟩ := hc
    have hlen := Nat.eq_of_beq_eq_true hlen
    cases Option.some.inj hr2
    obtain ⟨e1, e2⟩ := initB_eq cs 0 hi
    have e3 : cs = ints (List.range 52) := by rw [e1, show cs.length = 52 by omega, List.range_eq_range']
    obtain ⟨u1, u2⟩ := u8s_of ls hu
    show Does C6 fd25 blk25_2 _ _ _
    rw [is25_2, e3]
    have hd : dealC ls = ints (dealL (ls.map fun v => v.toI.toNat) 0 (List.range 52)) := by
      unfold dealC
      rw [shut_eq, ints_range _ (by rw [dealL_len]; simp)]
    rw [hd]
    generalize hzz : (ls.map fun v => v.toI.toNat) = zs at *
    have hll : zs.length = len := by rw [← hzz, List.length_map, hlen]
    subst hll
    subst u1
    exact (Does.block (loop25 B0 b zs h52 u2 zs [] (List.range 52) rfl (by simp)).does).le (.u (.k (.k (.u (.u (.u (.u (.u (.u (.u (.u (.u (.k (.k (.k (.u (.u (.u (.u .nil))))))))))))))))))) (.u (.k (.k (.u (.u (.u (.u (.u (.u (.u (.u (.u (.u (.u (.u (.u (.u (.u (.u .nil)))))))))))))))))))
  · simp [T.run] at hr
end Go.Proofs.YtgellkpbcoeccaaDoor
