/- Chapter 5: HandTurned: the search for the suits; the law. -/
import Derived.Test.YtgellkpbcoeccaaDoorTu2
import Derived.Test.YtgellkpbcoeccaaDoorSu4
namespace Go.Proofs.YtgellkpbcoeccaaDoor
open Go Go.Ev Go.Ev.Bits

abbrev kp4 : List Tmp := [0, 1, 4, 5, 6, 7, 8, 9, 10, 62, 68, 72, 97]
abbrev ct4 : List Tmp := [62, 68, 72, 97]
noncomputable def body4 : Code := Tryd.f4.body.getD .skip
noncomputable def fd4 : FD := { fn := Tryd.f4, keep := kp4, ct := ct4 }
theorem fdat4 : C7.code 4 = some fd4 := by kernel_rfl
theorem hb4 : fd4.fn.body = some body4 := by kernel_rfl
noncomputable def blk4_0 : Code := piece (isBlk 0) body4
theorem one4_0 : (pieceL (isBlk 0) body4).length = 1 := by kernel_rfl
theorem in4_0 : blk4_0 ∈ subs body4 := piece_in one4_0
noncomputable def bod4_0 : Code := unLoop (unBlk blk4_0)
theorem is4_0 : blk4_0 = .block 0 (.loop bod4_0) := by kernel_rfl
theorem bin4_0 : bod4_0 ∈ subs body4 := loop_in (block_in (id := 0) (is4_0 ▸ in4_0))
theorem keepOk7 : ∀ f fd, C7.code f = some fd → fd.keep.Nodup := keepOk
theorem noZ7 : ZOk C7 noZ := noZ_ok keepOk7

abbrev m4 : List Bool := [true, true, false, true, true, true, true, true, false, false, false, false, false]
abbrev fr4 (n w t M s : Nat) : List AV := [.int .u64 n, .int .u8 w, .undef, .int .u64 t, .own 0 0, .own 1 0, .int .i64 M, .int .u8 s, .undef, .undef, .undef, .undef, .undef]
abbrev H4 (l0 l1 l2 l3 k0 k1 k2 k3 : Int) : Heap := [some ⟨31, [.int .i64 l0, .int .i64 l1, .int .i64 l2, .int .i64 l3]⟩, some ⟨31, [.int .i64 k0, .int .i64 k1, .int .i64 k2, .int .i64 k3]⟩]
def D4 : List (Nat × Nat) := (List.range 4).flatMap fun s => (List.range 16).map fun M => (s, M)
/-- The first of the suits that are left which is alike. -/
def stepM {β : Type} (E : Nat → Bool) (B : Nat → Bool) (M : Nat) (hit : Nat → β) : β :=
  let nx (o : Nat) (cont : β) : β := bif M.testBit o then cont else bif E o then bif B o then hit (M ||| 2 ^ o) else cont else cont
  nx 0 (nx 1 (nx 2 (nx 3 (hit M))))
noncomputable def E4 (n t s o : Nat) : Bool := ((shut (hd n s) : Nat) : Int) == ((shut (hd t o) : Nat) : Int)
theorem r4 (n w t : Nat) (l0 l1 l2 l3 k0 k1 k2 k3 : Int) : D4.map (fun d => codeG C7 noZ 60 4 kp4 ct4 isN m4 bod4_0 (fr4 n w t d.2 d.1) (H4 l0 l1 l2 l3 k0 k1 k2 k3) 2) =
    D4.map (fun d => stepM (E4 n t d.1) (fun o => lsel l0 l1 l2 l3 d.1 == lsel k0 k1 k2 k3 o) d.2 (fun M => some (.n, fr4 n w t M (d.1 + 1), H4 l0 l1 l2 l3 k0 k1 k2 k3))) := by kernel_rfl
theorem r4x (n w t M : Nat) (l0 l1 l2 l3 k0 k1 k2 k3 : Int) : codeG C7 noZ 60 4 kp4 ct4 isEx m4 bod4_0 (fr4 n w t M 4) (H4 l0 l1 l2 l3 k0 k1 k2 k3) 2 = some (.ex 0, fr4 n w t M 4, H4 l0 l1 l2 l3 k0 k1 k2 k3) := by kernel_rfl

/-! ### Each suit finds one -/
def stepB (E : Nat → Bool) (M : Nat) : Nat := stepM E (fun _ => true) M (fun M => M)
theorem stepB_lt (E : Nat → Bool) (M : Nat) (h : M < 16) : stepB E M < 16 := by
  have l0 : M ||| 2 ^ 0 < 2 ^ 4 := Nat.or_lt_two_pow h (by omega)
  have l1 : M ||| 2 ^ 1 < 2 ^ 4 := Nat.or_lt_two_pow h (by omega)
  have l2 : M ||| 2 ^ 2 < 2 ^ 4 := Nat.or_lt_two_pow h (by omega)
  have l3 : M ||| 2 ^ 3 < 2 ^ 4 := Nat.or_lt_two_pow h (by omega)
  have c (b : Bool) (x y : Nat) (hx : x < 16) (hy : y < 16) : (bif b then x else y) < 16 := by cases b <;> assumption
  have k (o cont : Nat) (ho : M ||| 2 ^ o < 16) (hc : cont < 16) : (bif M.testBit o then cont else bif E o then bif true then M ||| 2 ^ o else cont else cont) < 16 := c _ _ _ hc (c _ _ _ (c _ _ _ ho hc) hc)
  unfold stepB stepM
  exact k 0 _ (by omega) (k 1 _ (by omega) (k 2 _ (by omega) (k 3 _ (by omega) h)))
theorem stepM_eq {β : Type} (E B : Nat → Bool) (M : Nat) (hit : Nat → β) (h : ∀ o, o < 4 → E o = true → B o = true) : stepM E B M hit = hit (stepB E M) := by
  have e (o : Nat) (ho : o < 4) (c : β) (c' : Nat) (hc : c = hit c') : (bif M.testBit o then c else bif E o then bif B o then hit (M ||| 2 ^ o) else c else c) = hit (bif M.testBit o then c' else bif E o then bif true then M ||| 2 ^ o else c' else c') := by
    cases M.testBit o
    · cases hE : E o
      · simpa using hc
      · rw [h o ho hE]; rfl
    · simpa using hc
  unfold stepB stepM
  exact e 0 (by omega) _ _ (e 1 (by omega) _ _ (e 2 (by omega) _ _ (e 3 (by omega) _ _ rfl)))
theorem stepB_congr {E E' : Nat → Bool} (h : ∀ o, o < 4 → E o = E' o) (M : Nat) : stepB E M = stepB E' M := by
  unfold stepB stepM
  simp only [h 0 (by omega), h 1 (by omega), h 2 (by omega), h 3 (by omega)]
def inv4 (p : N4) (o : Nat) : Nat := bif Nat.beq p.1 o then 0 else bif Nat.beq p.2.1 o then 1 else bif Nat.beq p.2.2.1 o then 2 else 3
theorem inv4_at : ∀ p ∈ P24, ∀ o ∈ List.range 4, inv4 p o < 4 ∧ at4 p (inv4 p o) = o := by decide +kernel
def gE (lab p : N4) (s o : Nat) : Bool := Nat.beq (at4 lab s) (at4 lab (inv4 p o))
def gAll (lab p : N4) : Nat := stepB (gE lab p 3) (stepB (gE lab p 2) (stepB (gE lab p 1) (stepB (gE lab p 0) 0)))
def labs : List N4 := (List.range 4).flatMap fun a => (List.range 4).flatMap fun b => (List.range 4).flatMap fun c => (List.range 4).map fun d => (a, b, c, d)
theorem gAll_eq : (P24.all fun p => labs.all fun l => Nat.beq (gAll l p) 15) = true := by decide +kernel
/-- The first with the same value. -/
def lab1 (x : Nat → Nat) (i : Nat) : Nat := bif Nat.beq (x 0) (x i) then 0 else bif Nat.beq (x 1) (x i) then 1 else bif Nat.beq (x 2) (x i) then 2 else 3
theorem beq_iff' {a b : Nat} : Nat.beq a b = true ↔ a = b := ⟨Nat.eq_of_beq_eq_true, fun h => by subst h; simp⟩
theorem lab1_eq (x : Nat → Nat) (i j : Nat) (hi : i < 4) (hj : j < 4) : Nat.beq (lab1 x i) (lab1 x j) = Nat.beq (x i) (x j) := by
  have key : lab1 x i = lab1 x j ↔ x i = x j := by
    constructor
    · intro h
      unfold lab1 at h
      have hi' : i = 0 ∨ i = 1 ∨ i = 2 ∨ i = 3 := by omega
      have hj' : j = 0 ∨ j = 1 ∨ j = 2 ∨ j = 3 := by omega
      cases a0 : Nat.beq (x 0) (x i) <;> cases a1 : Nat.beq (x 1) (x i) <;> cases a2 : Nat.beq (x 2) (x i) <;> cases b0 : Nat.beq (x 0) (x j) <;> cases b1 : Nat.beq (x 1) (x j) <;> cases b2 : Nat.beq (x 2) (x j) <;> simp only [a0, a1, a2, b0, b1, b2, cond_true, cond_false] at h <;> first
        | (exact absurd h (by decide))
        | (rw [beq_iff'] at a0 b0; rw [← a0, ← b0])
        | (rw [beq_iff'] at a1 b1; rw [← a1, ← b1])
        | (rw [beq_iff'] at a2 b2; rw [← a2, ← b2])
        | (have e1 : i = 3 := by
             rcases hi' with rfl | rfl | rfl | rfl
             · simp at a0
             · simp at a1
             · simp at a2
             · rfl
           have e2 : j = 3 := by
             rcases hj' with rfl | rfl | rfl | rfl
             · simp at b0
             · simp at b1
             · simp at b2
             · rfl
           rw [e1, e2])
    · intro h
      unfold lab1
      rw [h]
  cases h1 : Nat.beq (lab1 x i) (lab1 x j)
  · cases h2 : Nat.beq (x i) (x j)
    · rfl
    · have := key.2 (beq_iff'.1 h2)
      rw [beq_iff'.2 this] at h1; cases h1
  · rw [beq_iff'.2 (key.1 (beq_iff'.1 h1))]
theorem lab1_lt (x : Nat → Nat) (i : Nat) : lab1 x i < 4 := by
  unfold lab1
  cases Nat.beq (x 0) (x i) <;> cases Nat.beq (x 1) (x i) <;> cases Nat.beq (x 2) (x i) <;> simp only [cond_true, cond_false] <;> omega
theorem found (x y : Nat → Nat) (p : N4) (hp : p ∈ P24) (h : ∀ i, i < 4 → y (at4 p i) = x i) : stepB (fun o => Nat.beq (x 3) (y o)) (stepB (fun o => Nat.beq (x 2) (y o)) (stepB (fun o => Nat.beq (x 1) (y o)) (stepB (fun o => Nat.beq (x 0) (y o)) 0))) = 15 := by
  have hE (s : Nat) (hs : s < 4) : ∀ o, o < 4 → Nat.beq (x s) (y o) = gE (lab1 x 0, lab1 x 1, lab1 x 2, lab1 x 3) p s o := fun o ho => by
    obtain ⟨h1, h2⟩ := inv4_at p hp o (List.mem_range.2 ho)
    have hat : ∀ i, i < 4 → at4 (lab1 x 0, lab1 x 1, lab1 x 2, lab1 x 3) i = lab1 x i := fun i hi => by
      have : i = 0 ∨ i = 1 ∨ i = 2 ∨ i = 3 := by omega
      rcases this with rfl | rfl | rfl | rfl <;> rfl
    unfold gE
    rw [hat s hs, hat _ h1, lab1_eq x s _ hs h1, ← h _ h1, h2]
  rw [stepB_congr (hE 0 (by omega)), stepB_congr (hE 1 (by omega)), stepB_congr (hE 2 (by omega)), stepB_congr (hE 3 (by omega))]
  have h1 := List.all_eq_true.1 gAll_eq p hp
  have hm : (lab1 x 0, lab1 x 1, lab1 x 2, lab1 x 3) ∈ labs := by
    unfold labs
    simp only [List.mem_flatMap, List.mem_map, List.mem_range]
    exact ⟨_, lab1_lt x 0, _, lab1_lt x 1, _, lab1_lt x 2, _, lab1_lt x 3, rfl⟩
  exact beq_iff'.1 (List.all_eq_true.1 h1 _ hm)

/-! ### The law -/
theorem mem_D4 {s M : Nat} (hs : s < 4) (hM : M < 16) : (s, M) ∈ D4 := by
  unfold D4
  simp only [List.mem_flatMap, List.mem_map, List.mem_range]
  exact ⟨s, hs, M, hM, rfl⟩
abbrev Ht (n t : Nat) : Heap := H4 (ln n 0 : Nat) (ln n 1 : Nat) (ln n 2 : Nat) (ln n 3 : Nat) (ln t 0 : Nat) (ln t 1 : Nat) (ln t 2 : Nat) (ln t 3 : Nat)
theorem round4 (n w t s M : Nat) (hs : s < 4) (hM : M < 16) : codeG C7 noZ 60 4 kp4 ct4 isN m4 bod4_0 (fr4 n w t M s) (Ht n t) 2 = some (.n, fr4 n w t (stepB (fun o => Nat.beq (hd n s) (hd t o)) M) (s + 1), Ht n t) := by
  have h1 := allEq (r4 n w t (ln n 0 : Nat) (ln n 1 : Nat) (ln n 2 : Nat) (ln n 3 : Nat) (ln t 0 : Nat) (ln t 1 : Nat) (ln t 2 : Nat) (ln t 3 : Nat)) (s, M) (mem_D4 hs hM)
  have hE : ∀ o, E4 n t s o = Nat.beq (hd n s) (hd t o) := fun o => by
    unfold E4
    rw [shut_eq, shut_eq, beq_nat]
  refine h1.trans ?_
  rw [stepM_eq _ _ _ _ (fun o ho h => ?_)]
  · have : E4 n t (s, M).1 = fun o => Nat.beq (hd n s) (hd t o) := funext hE
    rw [this]
  · rw [lsel_eq n _ hs, lsel_eq t o ho, beq_nat, beq_iff']
    have h2 : Nat.beq (hd n s) (hd t o) = true := (hE o).symm.trans h
    unfold ln
    rw [beq_iff'.1 h2]
theorem loop4 (n w t : Nat) (p : N4) (hp : p ∈ P24) (ht : t = turnN n p) : Lp C7 fd4 bod4_0 (fr4 n w t 0 0) (Ht n t) (.ex 0, fr4 n w t 15 4, Ht n t) := by
  have hf := found (hd n) (hd t) p hp (fun i hi => by
    obtain ⟨h0, h1, h2, h3⟩ := hd_turn n p hp
    rw [← ht] at h0 h1 h2 h3
    have : i = 0 ∨ i = 1 ∨ i = 2 ∨ i = 3 := by omega
    rcases this with rfl | rfl | rfl | rfl
    · exact h0
    · exact h1
    · exact h2
    · exact h3)
  have hlen : (Ht n t).length = 2 := rfl
  have r0 := round4 n w t 0 0 (by omega) (by omega)
  have b1 := stepB_lt (fun o => Nat.beq (hd n 0) (hd t o)) 0 (by omega)
  have r1 := round4 n w t 1 _ (by omega) b1
  have b2 := stepB_lt (fun o => Nat.beq (hd n 1) (hd t o)) _ b1
  have r2 := round4 n w t 2 _ (by omega) b2
  have b3 := stepB_lt (fun o => Nat.beq (hd n 2) (hd t o)) _ b2
  have r3 := round4 n w t 3 _ (by omega) b3
  have r4 := r4x n w t 15 (ln n 0 : Nat) (ln n 1 : Nat) (ln n 2 : Nat) (ln n 3 : Nat) (ln t 0 : Nat) (ln t 1 : Nat) (ln t 2 : Nat) (ln t 3 : Nat)
  rw [hf] at r3
  replace r4 : codeG C7 noZ 60 4 kp4 ct4 isEx m4 bod4_0 (fr4 n w t 15 4) (Ht n t) 2 = some (.ex 0, fr4 n w t 15 4, Ht n t) := r4
  generalize Ht n t = H at *
  have d {x : X} {vs vs1 : List AV} {want : X → Bool} (hv : vs.length = fd4.keep.length) (h : codeG C7 noZ 60 4 kp4 ct4 want m4 bod4_0 vs H 2 = some (x, vs1, H)) : Does C7 fd4 bod4_0 vs H (x, vs1, H) := Does.runG ok7 noZ7 rfl rfl fdat4 hb4 bin4_0 60 hv (by rw [hlen]; exact h)
  exact .on (d rfl r0) (.on (d rfl r1) (.on (d rfl r2) (.on (d rfl r3) (.out (d rfl r4) (by simp)))))
/-- What the search gives. -/
noncomputable def l4 : SumF := fun vs H => match vs, H with
  | [.int .u64 n, .int .u8 w, _r, .int .u64 t, .own 0 0, .own 1 0, .int .i64 M, .int .u8 s, _y0, _y1, _y2, _y3, _y4], [some ⟨31, [.int .i64 l0, .int .i64 l1, .int .i64 l2, .int .i64 l3]⟩, some ⟨31, [.int .i64 k0, .int .i64 k1, .int .i64 k2, .int .i64 k3]⟩] =>
    .chk (leI 0 n && (leI 0 w && (M == 0 && (s == 0 && (isN4 t (turnN n.toNat (perm (w.toNat % 24))) && ((isN4 l0 (ln n.toNat 0) && (isN4 l1 (ln n.toNat 1) && (isN4 l2 (ln n.toNat 2) && isN4 l3 (ln n.toNat 3)))) && (isN4 k0 (ln t.toNat 0) && (isN4 k1 (ln t.toNat 1) && (isN4 k2 (ln t.toNat 2) && isN4 k3 (ln t.toNat 3))))))))))
      (.leaf (.n, [.undef, .undef, .undef, .undef, .undef, .undef, .int .i64 15, .undef, .undef, .undef, .undef, .undef, .undef], [some ⟨31, [.int .i64 l0, .int .i64 l1, .int .i64 l2, .int .i64 l3]⟩, some ⟨31, [.int .i64 k0, .int .i64 k1, .int .i64 k2, .int .i64 k3]⟩]))
  | _, _ => .fail
theorem does4 (n w : Nat) (t : Nat) (ht : t = turnN n (perm (w % 24))) (r y0 y1 y2 y3 y4 : AV) : Does C7 fd4 blk4_0 [.int .u64 n, .int .u8 w, r, .int .u64 t, .own 0 0, .own 1 0, .int .i64 0, .int .u8 0, y0, y1, y2, y3, y4] (Ht n t)
    (.n, [.undef, .undef, .undef, .undef, .undef, .undef, .int .i64 15, .undef, .undef, .undef, .undef, .undef, .undef], Ht n t) := by
  have h := loop4 n w t (perm (w % 24)) (perm_mem _ (Nat.mod_lt _ (by omega))) ht
  rw [is4_0]
  exact (Does.block h.does).le (.k (.k (.u (.k (.k (.k (.k (.k (.u (.u (.u (.u (.u .nil))))))))))))) (.u (.u (.u (.u (.u (.u (.k (.u (.u (.u (.u (.u (.u .nil)))))))))))))
theorem zl4 : ZEnt C7 (4, isBlk 0, lenF l4) := zent_does fdat4 hb4 one4_0 fun vs H q hv hr => by
  unfold l4 at hr
  split at hr
  · rename_i n w r t M s y0 y1 y2 y3 y4 l0 l1 l2 l3 k0 k1 k2 k3
    obtain ⟨hc, hr2⟩ := T.of_chk hr
    clear hr
    unfold isN4 at hc
    simp only [Bool.and_eq_true, leI_iff, beq_iff_eq, shut_eq] at hc
    obtain ⟨h0, h1, rfl, rfl, rfl, ⟨rfl, rfl, rfl, rfl⟩, rfl, rfl, rfl, rfl⟩ := hc
    cases Option.some.inj hr2
    obtain ⟨n, rfl⟩ : ∃ m : Nat, n = m := ⟨n.toNat, by omega⟩
    obtain ⟨w, rfl⟩ : ∃ m : Nat, w = m := ⟨w.toNat, by omega⟩
    simp only [Int.toNat_natCast]
    show Does C7 fd4 blk4_0 _ _ _
    exact does4 n w _ rfl r y0 y1 y2 y3 y4
  · simp [T.run] at hr
noncomputable def Z4' : FuncId → Code → Option SumF := zAt [(4, isBlk 0, lenF l4)]
theorem z4' : ZOk C7 Z4' := zAt_ok keepOk7 fun e he => by
  simp only [List.mem_cons, List.not_mem_nil, or_false] at he
  rcases he with rfl
  exact zl4
end Go.Proofs.YtgellkpbcoeccaaDoor
