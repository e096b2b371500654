/- Chapter 5: the reference: Suits: the inner loop. -/
import Derived.Test.YtgellkpbcoeccaaDoorSm12
namespace Go.Proofs.YtgellkpbcoeccaaDoor
open Go Go.Ev Go.Ev.Bits

abbrev m36 : List Bool := [true, true, true, true, true, true, false, false, false]
abbrev fr36 (m k n s : Int) : List AV := [.int .u64 m, .own 0 0, .own 1 0, .int .i64 k, .int .i64 n, .int .i64 s, .undef, .undef, .undef]
abbrev H36 (x0 x1 x2 x3 y0 y1 y2 y3 : Int) : Heap := [some ⟨42, [.int .u8 x0, .int .u8 x1, .int .u8 x2, .int .u8 x3]⟩, some ⟨42, [.int .u8 y0, .int .u8 y1, .int .u8 y2, .int .u8 y3]⟩]
section
variable (x0 x1 x2 x3 y0 y1 y2 y3 : Int)
def pt36 (s : Nat) : Nat → (Heap → Option (X × List AV × Heap)) → Option (X × List AV × Heap)
  | 0, k => k (H36 x0 x1 x2 x3 s y1 y2 y3)
  | 1, k => k (H36 x0 x1 x2 x3 y0 s y2 y3)
  | 2, k => k (H36 x0 x1 x2 x3 y0 y1 s y3)
  | 3, k => k (H36 x0 x1 x2 x3 y0 y1 y2 s)
  | _, _ => none
noncomputable def trS (m : Nat) (n : Nat) (k s : Nat) : Option (X × List AV × Heap) :=
  bif um m then bif ((shut (ln m s) : Nat) : Int) == (n : Int) then pt36 x0 x1 x2 x3 y0 y1 y2 y3 s k (fun H => some (.n, fr36 m (k + 1 : Nat) n ((s : Int) - 1), H))
  else some (.n, fr36 m k n ((s : Int) - 1), H36 x0 x1 x2 x3 y0 y1 y2 y3) else none
def K5 : List Nat := [0, 1, 2, 3, 4]
theorem r36_3 (m n : Nat) : K5.map (fun k : Nat => codeG C11 noZ 60 36 kp36 ct36 isN m36 bod36_2 (fr36 m (k : Nat) n 3) (H36 x0 x1 x2 x3 y0 y1 y2 y3) 2) = K5.map (fun k => trS x0 x1 x2 x3 y0 y1 y2 y3 m n k 3) := by kernel_rfl
theorem r36_2 (m n : Nat) : K5.map (fun k : Nat => codeG C11 noZ 60 36 kp36 ct36 isN m36 bod36_2 (fr36 m k n 2) (H36 x0 x1 x2 x3 y0 y1 y2 y3) 2) = K5.map (fun k => trS x0 x1 x2 x3 y0 y1 y2 y3 m n k 2) := by kernel_rfl
theorem r36_1 (m n : Nat) : K5.map (fun k : Nat => codeG C11 noZ 60 36 kp36 ct36 isN m36 bod36_2 (fr36 m k n 1) (H36 x0 x1 x2 x3 y0 y1 y2 y3) 2) = K5.map (fun k => trS x0 x1 x2 x3 y0 y1 y2 y3 m n k 1) := by kernel_rfl
theorem r36_0 (m n : Nat) : K5.map (fun k : Nat => codeG C11 noZ 60 36 kp36 ct36 isN m36 bod36_2 (fr36 m k n 0) (H36 x0 x1 x2 x3 y0 y1 y2 y3) 2) = K5.map (fun k => trS x0 x1 x2 x3 y0 y1 y2 y3 m n k 0) := by kernel_rfl
theorem r36_x (m n k : Nat) : codeG C11 noZ 60 36 kp36 ct36 isEx m36 bod36_2 (fr36 m k n (-1)) (H36 x0 x1 x2 x3 y0 y1 y2 y3) 2 = some (.ex 2, fr36 m k n (-1), H36 x0 x1 x2 x3 y0 y1 y2 y3) := by kernel_rfl
/-- The state with a list of suits. -/
abbrev Hs36 (l : List Nat) : Heap := H36 x0 x1 x2 x3 (l.getD 0 0 : Nat) (l.getD 1 0 : Nat) (l.getD 2 0 : Nat) (l.getD 3 0 : Nat)
theorem pt36_eq (s : Nat) (l : List Nat) (h : (l ++ [s]).length ≤ 4) (k : Heap → Option (X × List AV × Heap)) : pt36 x0 x1 x2 x3 (l.getD 0 0 : Nat) (l.getD 1 0 : Nat) (l.getD 2 0 : Nat) (l.getD 3 0 : Nat) s l.length k = k (Hs36 x0 x1 x2 x3 (l ++ [s])) := by
  match l, h with
  | [], _ => rfl
  | [a], _ => rfl
  | [a, b], _ => rfl
  | [a, b, c], _ => rfl
  | a :: b :: c :: d :: l, h => simp at h
theorem trS_eq (m n s : Nat) (hm : m < 18446744073709551616) (l : List Nat) (h : (sTS (ln m) n s l).length ≤ 4) : trS x0 x1 x2 x3 (l.getD 0 0 : Nat) (l.getD 1 0 : Nat) (l.getD 2 0 : Nat) (l.getD 3 0 : Nat) m n l.length s = some (.n, fr36 m ((sTS (ln m) n s l).length : Nat) n ((s : Int) - 1), Hs36 x0 x1 x2 x3 (sTS (ln m) n s l)) := by
  unfold trS
  unfold sTS at h ⊢
  rw [um_eq hm, cond_true, shut_eq, beq_nat]
  cases hq : Nat.beq (ln m s) n
  · rfl
  · rw [hq, cond_true] at h
    rw [cond_true, pt36_eq _ _ _ _ _ _ h, cond_true, List.length_append]
    rfl
theorem K5_mem (k : Nat) (h : k ≤ 4) : k ∈ K5 := by
  have : k = 0 ∨ k = 1 ∨ k = 2 ∨ k = 3 ∨ k = 4 := by omega
  rcases this with rfl | rfl | rfl | rfl | rfl <;> decide
theorem sTS_len (L : Nat → Nat) (n s : Nat) (l : List Nat) : l.length ≤ (sTS L n s l).length := by
  unfold sTS
  cases Nat.beq (L s) n <;> simp
theorem loop36i (m n : Nat) (hm : m < 18446744073709551616) (l : List Nat) (h : (iNS (ln m) n l).length ≤ 4) : Lp C11 fd36 bod36_2 (fr36 m (l.length : Nat) n 3) (Hs36 x0 x1 x2 x3 l) (.ex 2, fr36 m ((iNS (ln m) n l).length : Nat) n (-1), Hs36 x0 x1 x2 x3 (iNS (ln m) n l)) := by
  unfold iNS at h ⊢
  have h3 := sTS_len (ln m) n 3 l
  have h2 := sTS_len (ln m) n 2 (sTS (ln m) n 3 l)
  have h1 := sTS_len (ln m) n 1 (sTS (ln m) n 2 (sTS (ln m) n 3 l))
  have h0 := sTS_len (ln m) n 0 (sTS (ln m) n 1 (sTS (ln m) n 2 (sTS (ln m) n 3 l)))
  refine .on (Does.runG ok11 noZ11 rfl rfl fdat36 hb36 bin36_2 60 rfl ((List.map_inj_left.1 (r36_3 x0 x1 x2 x3 _ _ _ _ m n) _ (K5_mem _ (by omega))).trans (trS_eq x0 x1 x2 x3 m n 3 hm l (by omega)))) ?_
  refine .on (Does.runG ok11 noZ11 rfl rfl fdat36 hb36 bin36_2 60 rfl ((List.map_inj_left.1 (r36_2 x0 x1 x2 x3 _ _ _ _ m n) (sTS (ln m) n 3 l).length (K5_mem _ (by omega))).trans (trS_eq x0 x1 x2 x3 m n 2 hm (sTS (ln m) n 3 l) (by omega)))) ?_
  refine .on (Does.runG ok11 noZ11 rfl rfl fdat36 hb36 bin36_2 60 rfl ((List.map_inj_left.1 (r36_1 x0 x1 x2 x3 _ _ _ _ m n) (sTS (ln m) n 2 (sTS (ln m) n 3 l)).length (K5_mem _ (by omega))).trans (trS_eq x0 x1 x2 x3 m n 1 hm (sTS (ln m) n 2 (sTS (ln m) n 3 l)) (by omega)))) ?_
  refine .on (Does.runG ok11 noZ11 rfl rfl fdat36 hb36 bin36_2 60 rfl ((List.map_inj_left.1 (r36_0 x0 x1 x2 x3 _ _ _ _ m n) (sTS (ln m) n 1 (sTS (ln m) n 2 (sTS (ln m) n 3 l))).length (K5_mem _ (by omega))).trans (trS_eq x0 x1 x2 x3 m n 0 hm (sTS (ln m) n 1 (sTS (ln m) n 2 (sTS (ln m) n 3 l))) (by omega)))) ?_
  exact .out (Does.runG ok11 noZ11 rfl rfl fdat36 hb36 bin36_2 60 rfl (r36_x x0 x1 x2 x3 _ _ _ _ m n _)) (by simp)
end
def tk36 (k y0 y1 y2 y3 : Int) : List Nat := [y0.toNat, y1.toNat, y2.toNat, y3.toNat].take k.toNat
def okS36 (k y0 y1 y2 y3 : Int) (l : List Nat) : Bool := k == (l.length : Nat) && (y0 == (l.getD 0 0 : Nat) && (y1 == (l.getD 1 0 : Nat) && (y2 == (l.getD 2 0 : Nat) && y3 == (l.getD 3 0 : Nat))))
theorem tk36_eq (l : List Nat) (h : l.length ≤ 4) : tk36 (l.length : Nat) (l.getD 0 0 : Nat) (l.getD 1 0 : Nat) (l.getD 2 0 : Nat) (l.getD 3 0 : Nat) = l := by
  match l, h with
  | [], _ => rfl
  | [a], _ => rfl
  | [a, b], _ => rfl
  | [a, b, c], _ => rfl
  | [a, b, c, d], _ => rfl
  | a :: b :: c :: d :: e :: l, h => simp at h
theorem okS36_eq (l : List Nat) : okS36 (l.length : Nat) (l.getD 0 0 : Nat) (l.getD 1 0 : Nat) (l.getD 2 0 : Nat) (l.getD 3 0 : Nat) l = true := by
  unfold okS36
  simp
def nx36 (m n k y0 y1 y2 y3 : Int) : List Nat := iNS (ln m.toNat) n.toNat (tk36 k y0 y1 y2 y3)
noncomputable def lI36 : SumF := fun vs H => match vs, H with
  | [.int .u64 m, .own 0 0, .own 1 0, .int .i64 k, .int .i64 n, .int .i64 s, _a, _b, _c], [some ⟨42, [.int .u8 x0, .int .u8 x1, .int .u8 x2, .int .u8 x3]⟩, some ⟨42, [.int .u8 y0, .int .u8 y1, .int .u8 y2, .int .u8 y3]⟩] =>
    .chk (leI 0 m && (leI m 18446744073709551615 && (leI 0 n && (leI n 13 && (s == 3 && (okS36 k y0 y1 y2 y3 (tk36 k y0 y1 y2 y3) && Nat.ble (nx36 m n k y0 y1 y2 y3).length 4))))))
      (.leaf (.n, [.int .u64 m, .own 0 0, .own 1 0, .int .i64 ((nx36 m n k y0 y1 y2 y3).length : Nat), .int .i64 n, .undef, .undef, .undef, .undef], Hs36 x0 x1 x2 x3 (nx36 m n k y0 y1 y2 y3)))
  | _, _ => .fail
theorem does36i (m n : Nat) (x0 x1 x2 x3 : Int) (a b c : AV) (hm : m < 18446744073709551616) (l : List Nat) (h : (iNS (ln m) n l).length ≤ 4) : Does C11 fd36 blk36_2 [.int .u64 m, .own 0 0, .own 1 0, .int .i64 (l.length : Nat), .int .i64 n, .int .i64 3, a, b, c] (Hs36 x0 x1 x2 x3 l)
    (.n, [.int .u64 m, .own 0 0, .own 1 0, .int .i64 ((iNS (ln m) n l).length : Nat), .int .i64 n, .undef, .undef, .undef, .undef], Hs36 x0 x1 x2 x3 (iNS (ln m) n l)) := by
  have h := loop36i x0 x1 x2 x3 m n hm l h
  rw [is36_2]
  generalize iNS (ln m) n l = y at *
  exact (Does.block h.does).le (.k (.k (.k (.k (.k (.k (.u (.u (.u .nil))))))))) (.k (.k (.k (.k (.k (.u (.k (.k (.k .nil)))))))))
theorem zi36 : ZEnt C11 (36, isBlk 2, lenF lI36) := zent_does fdat36 hb36 one36_2 fun vs H q hv hr => by
  unfold lI36 at hr
  split at hr
  · rename_i m k n s a b c x0 x1 x2 x3 y0 y1 y2 y3
    obtain ⟨hc, hr2⟩ := T.of_chk hr
    clear hr
    simp only [Bool.and_eq_true, beq_iff_eq, leI_iff] at hc
    obtain ⟨h0, h1, h2, h3, rfl, h5, h60⟩ := hc
    have h6 := Nat.le_of_ble_eq_true h60
    clear h60
    cases Option.some.inj hr2
    obtain ⟨m, rfl⟩ : ∃ n : Nat, m = n := ⟨m.toNat, by omega⟩
    obtain ⟨n, rfl⟩ : ∃ k : Nat, n = k := ⟨n.toNat, by omega⟩
    unfold nx36 at h6 ⊢
    generalize tk36 k y0 y1 y2 y3 = l at *
    unfold okS36 at h5
    simp only [Bool.and_eq_true, beq_iff_eq] at h5
    obtain ⟨rfl, rfl, rfl, rfl, rfl⟩ := h5
    simp only [Int.toNat_natCast] at h6 ⊢
    exact does36i m n x0 x1 x2 x3 a b c (by omega) l h6
  · simp [T.run] at hr
noncomputable def ZI36 : FuncId → Code → Option SumF := zAt [(36, isBlk 2, lenF lI36)]
theorem zI36 : ZOk C11 ZI36 := zAt_ok keepOk11 fun e he => by
  simp only [List.mem_cons, List.not_mem_nil, or_false] at he
  rcases he with rfl
  exact zi36
end Go.Proofs.YtgellkpbcoeccaaDoor
