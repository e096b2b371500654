/- Evaluator: soundness, part 5: slices of slices, lengths, append, copy, conversions. -/
import Derived.Test.YtfkpbchdapccmaaDoorEvG
namespace Go.Ev

section
variable {C : Ctx} {E : Env} {H : Heap} {w : World}

inductive RO (E : Env) : Option AV → Option Value → Prop
  | none : RO E none none
  | some {v : AV} {c : Value} : R E v c → RO E (some v) (some c)

theorem ro_opnd (hI : Inv C E H w) {e : Fr} {a : Act} (hf : FrR E e a) (x : Option Operand) : RO E (x.map (opnd C e)) (x.map a.eval) := by
  cases x with
  | none => exact .none
  | some x => exact .some (opnd_ok hI hf x)

theorem bound_ok {v : AV} {c : Value} {i : Int} {y : Nat} {code : BoundsCode} (h : intOf? v = some i) (hr : R E v c) (h0 : 0 ≤ i) (hy : i ≤ y) : (Instr.sliceBound c y code).run C.P w = .ok i.toNat w := by
  cases v <;> simp [intOf?] at h
  subst h
  cases hr.int_inv
  simp [Instr.sliceBound, asIntOf, h0, hy]

theorem bounds_ok {isS : Bool} {len cap : Nat} {lo hi : Option AV} {lo' hi' : Option Value} {l h : Int} (rl : RO E lo lo') (rh : RO E hi hi') (hl : optI 0 lo = some l) (hh : optI len hi = some h) (h0 : 0 ≤ l) (h1 : l ≤ h) (h2 : hi ≠ none → h ≤ cap) :
    (Instr.sliceBounds isS len cap lo' hi' none).run C.P w = .ok (l.toNat, h.toNat, cap) w := by
  cases rh with
  | none =>
    simp only [optI, Option.some.injEq] at hh; subst hh
    cases rl with
    | none => simp only [optI, Option.some.injEq] at hl; subst hl; simp [Instr.sliceBounds]
    | some r =>
      simp only [optI] at hl
      have := bound_ok (w := w) (C := C) (y := len) (code := .sliceB) hl r h0 (by omega)
      simp [Instr.sliceBounds, this]
  | some r =>
    simp only [optI] at hh
    have h3 : h ≤ cap := h2 (by simp)
    have b1 := fun code => bound_ok (w := w) (C := C) (y := cap) (code := code) hh r (by omega) h3
    cases rl with
    | none => simp only [optI, Option.some.injEq] at hl; subst hl; simp [Instr.sliceBounds, b1]
    | some r =>
      simp only [optI] at hl
      have b2 := bound_ok (w := w) (C := C) (y := h.toNat) (code := .sliceB) hl r h0 (by omega)
      simp [Instr.sliceBounds, b1, b2]

theorem and3 {a b c : Bool} (h : (a && b && c) = true) : a = true ∧ b = true ∧ c = true := by
  simp only [Bool.and_eq_true] at h; exact ⟨h.1.1, h.1.2, h.2⟩

theorem extract_str (s : List UInt8) (l h : Nat) : (⟨s.toArray⟩ : ByteArray).extract l h = ⟨((s.take h).drop l).toArray⟩ := by
  apply ByteArray.ext
  simp [ByteArray.data_extract, List.drop_take]

theorem sliceA_ok (hT : TyOk C) (hI : Inv C E H w) {t : TypeId} {x v : AV} {c : Value} {lo hi mx : Option AV} {lo' hi' mx' : Option Value}
    (h : (sliceA C H t x lo hi mx).run = some v) (hx : R E x c) (rl : RO E lo lo') (rh : RO E hi hi') (rm : RO E mx mx') :
    ∃ y, (Instr.sliceAt t c lo' hi' mx').run C.P w = .ok y w ∧ R E v y := by
  unfold sliceA at h
  split at h
  · simp [T.run] at h
  cases rm
  split at h
  · rename_i s hd
    cases hx.str_inv
    split at h
    · rename_i l hh hlo hhi
      obtain ⟨h1, h2⟩ := T.of_chk h
      cases Option.some.inj h2
      simp only [Bool.and_eq_true, leI, decide_eq_true_eq] at h1
      obtain ⟨⟨⟨hok, h3⟩, h4⟩, h5⟩ := h1
      have hb := bounds_ok (C := C) (w := w) (isS := false) (cap := s.length) rl rh hlo hhi h3 h4 (fun _ => h5)
      have e1 : (⟨s.toArray⟩ : ByteArray).size = s.length := by simp [ByteArray.size]
      exact ⟨_, by simp [Instr.sliceAt, Instr.slice, run_underlying (und_string hT hok hd), e1, hb, extract_str], .pers (.str _)⟩
    · simp [T.run] at h
  · rename_i el sz id off len cap hd
    obtain ⟨b, m, cp, he, rfl, hcap, hlen, hm⟩ := hx.sl_inv
    split at h
    · rename_i l hh cc hlo hhi
      obtain ⟨h1, h2⟩ := T.of_chk h
      simp only [Bool.and_eq_true, leI, decide_eq_true_eq, Nat.beq_eq] at h1
      obtain ⟨⟨⟨⟨⟨hok, hoke⟩, hsz⟩, h3⟩, h4⟩, h5⟩ := h1
      obtain rfl := hcap _ rfl
      have hb := bounds_ok (C := C) (w := w) (isS := true) (cap := cp) rl rh hlo hhi h3 h4 (fun _ => h5)
      refine ⟨_, by simp [Instr.sliceAt, Instr.slice, run_underlying (und_slice hT hok hd), hb, run_sizeOf hT hoke]; rfl, ?_⟩
      rcases T.of_br h2 with ⟨h6, h7⟩ | ⟨h6, h7⟩
      · simp only [Nat.beq_eq] at h6
        cases Option.some.inj h7
        rw [if_pos h6.symm]
        have : hh.toNat - l.toNat = 0 := by omega
        rw [this]
        exact .pers (.ro (.nil _ _) (by simp) (Nat.zero_le _))
      · have h6 : l.toNat ≠ cp := fun e => by rw [e] at h6; simp at h6
        cases Option.some.inj h7
        rw [if_neg (fun e => h6 e.symm), addr_add, ← hsz]
        refine .sl he (fun x hx => by cases hx; rfl) (by omega) ?_
        have : l.toNat ≤ cp := by omega
        rw [Nat.add_assoc, ← Nat.add_mul]
        rw [show l.toNat + (cp - l.toNat) = cp by omega]
        exact hm
    · rename_i l hh hlo hhi
      obtain ⟨h1, h2⟩ := T.of_chk h
      simp only [Bool.and_eq_true, leI, decide_eq_true_eq, Nat.beq_eq] at h1
      obtain ⟨⟨⟨⟨⟨hok, hoke⟩, hsz⟩, h3⟩, h4⟩, h5⟩ := h1
      have hb := bounds_ok (C := C) (w := w) (isS := true) (cap := cp) rl rh hlo hhi h3 h4 (fun _ => by omega)
      refine ⟨_, by simp [Instr.sliceAt, Instr.slice, run_underlying (und_slice hT hok hd), hb, run_sizeOf hT hoke]; rfl, ?_⟩
      rcases T.of_br h2 with ⟨h6, h7⟩ | ⟨h6, h7⟩
      · simp only [Nat.beq_eq] at h6
        cases Option.some.inj h7
        have : (if cp = l.toNat then some (⟨b, off, none⟩ : Addr) else some ((⟨b, off, none⟩ : Addr).add (l.toNat * (C.ty el).size))) = some ⟨b, off, none⟩ := by
          rw [h6]; split <;> simp [addr_add]
        rw [this, h6]
        exact .sl he (fun x hx => by cases hx) (by omega) hm
      · rcases T.of_br h7 with ⟨h8, h9⟩ | ⟨h8, h9⟩
        · simp only [Nat.beq_eq] at h8
          cases Option.some.inj h9
          have : hh.toNat - l.toNat = 0 := by omega
          rw [this]
          split
          · exact .pers (.ro (.nil _ _) (by simp) (Nat.zero_le _))
          · rw [addr_add]; exact .pers (.ro (.nil _ _) (by simp) (Nat.zero_le _))
        · have h8 : l.toNat ≠ hh.toNat := fun e => by rw [e] at h8; simp at h8
          cases Option.some.inj h9
          rw [if_neg (by omega), addr_add, ← hsz]
          refine .sl he (fun x hx => by cases hx) (by omega) ?_
          rw [Nat.add_assoc, ← Nat.add_mul]
          rw [show l.toNat + (cp - l.toNat) = cp by omega]
          exact hm
    · simp [T.run] at h
  · rename_i el full len cells hd
    obtain ⟨b, o, cp, rfl, hg, hful, hlen⟩ := hx.ro_inv
    split at h
    · rename_i l hh hlo hhi
      obtain ⟨h1, h2⟩ := T.of_chk h
      simp only [Bool.and_eq_true, leI, decide_eq_true_eq, Nat.beq_eq] at h1
      obtain ⟨⟨⟨⟨⟨hok, hoke⟩, hsz⟩, h3⟩, h4⟩, h5⟩ := h1
      have hb := bounds_ok (C := C) (w := w) (isS := true) (cap := cp) rl rh hlo hhi h3 h4 (fun _ => by omega)
      refine ⟨_, by simp [Instr.sliceAt, Instr.slice, run_underlying (und_slice hT hok hd), hb, run_sizeOf hT hoke]; rfl, ?_⟩
      rcases T.of_br h2 with ⟨h6, h7⟩ | ⟨h6, h7⟩
      · simp only [Nat.beq_eq] at h6
        cases Option.some.inj h7
        have : hh.toNat - l.toNat = 0 := by omega
        rw [this]
        split
        · exact .pers (.ro (.nil _ _) (by simp) (Nat.zero_le _))
        · rw [addr_add]; exact .pers (.ro (.nil _ _) (by simp) (Nat.zero_le _))
      · have h6 : l.toNat ≠ len := fun e => by rw [e] at h6; simp at h6
        cases Option.some.inj h7
        rw [if_neg (by omega), addr_add]
        refine .pers (.ro ((hg.take _).drop _) (fun hf => ?_) (by omega))
        simp only [Bool.and_eq_true, Nat.beq_eq] at hf
        rw [hful hf.1]; omega
    · simp [T.run] at h
  · rename_i el hd
    cases hx.nils_inv
    split at h
    · rename_i l hh hlo hhi
      obtain ⟨h1, h2⟩ := T.of_chk h
      simp only [Bool.and_eq_true, leI, decide_eq_true_eq] at h1
      obtain ⟨⟨⟨⟨hok, hoke⟩, h3⟩, h4⟩, h5⟩ := h1
      cases Option.some.inj h2
      have hb := bounds_ok (C := C) (w := w) (isS := true) (len := 0) (cap := 0) rl rh hlo hhi h3 h4 (fun _ => by simpa using h5)
      have e1 : l = 0 := by omega
      have e2 : hh = 0 := by omega
      subst e1 e2
      exact ⟨_, by simp [Instr.sliceAt, Instr.slice, run_underlying (und_slice hT hok hd), hb, run_sizeOf hT hoke], .pers .nils⟩
    · simp [T.run] at h
  · rename_i n el id off hd
    split at h
    · rename_i blk hbk
      obtain ⟨b, m, he, rfl⟩ := hx.own_inv
      split at h
      · rename_i l hh hlo hhi
        obtain ⟨h1, h2⟩ := T.of_chk h
        simp only [Bool.and_eq_true, leI, decide_eq_true_eq, Nat.ble_eq] at h1
        obtain ⟨⟨⟨⟨⟨hok, hoke⟩, h3⟩, h4⟩, h5⟩, hfit⟩ := h1
        have hb := bounds_ok (C := C) (w := w) (isS := false) (cap := n) rl rh hlo hhi h3 h4 (fun _ => h5)
        obtain ⟨b', m', cs, rest, e2, hh', hm, hr⟩ := hI.blk id blk (hget_eq hbk)
        rw [he] at e2; cases e2
        have hlr := hr.length
        refine ⟨_, by simp [Instr.sliceAt, run_underlying (und_array hT hok hd), Instr.sureAddr, hb, run_sizeOf hT hoke]; rfl, ?_⟩
        rcases T.of_br h2 with ⟨h6, h7⟩ | ⟨h6, h7⟩
        · simp only [Nat.beq_eq] at h6
          cases Option.some.inj h7
          rw [if_pos h6.symm]
          have : hh.toNat - l.toNat = 0 := by omega
          rw [this]
          exact .pers (.ro (.nil _ _) (by simp) (Nat.zero_le _))
        · have h6 : l.toNat ≠ n := fun e => by rw [e] at h6; simp at h6
          cases Option.some.inj h7
          rw [if_neg (fun e => h6 e.symm), addr_add]
          refine .sl he (fun x hx => by cases hx; rfl) (by omega) ?_
          rw [Nat.add_assoc, ← Nat.add_mul]
          rw [show l.toNat + (n - l.toNat) = n by omega]
          simp at hm
          omega
      · simp [T.run] at h
    · simp [T.run] at h
  · simp [T.run] at h

theorem lenA_ok (hT : TyOk C) {ts : List TypeId} {x v : AV} {c : Value} (type : TypeId) (h : (lenA C ts x).run = some v) (hx : R E x c) : ∃ y, (Builtin.len_ ts.toArray type #[c]).run C.P w = .ok y w ∧ R E v y := by
  unfold lenA at h
  split at h
  · rename_i t rest
    replace h := T.of_chk h
    obtain ⟨hok, h⟩ := h
    split at h
    · rename_i s hd
      cases hx.str_inv
      cases Option.some.inj h
      have e1 : (⟨s.toArray⟩ : ByteArray).size = s.length := by simp [ByteArray.size]
      exact ⟨_, by simp [Builtin.len_, run_underlying (und_string hT hok hd), goInt, e1], .pers (.int _ _)⟩
    · rename_i n el hd
      cases Option.some.inj h
      exact ⟨_, by simp [Builtin.len_, run_underlying (und_array hT hok hd), goInt], .pers (.int _ _)⟩
    · rename_i el sz id off n cap hd
      obtain ⟨b, m, cp, he, rfl, hcap, hlen, hm⟩ := hx.sl_inv
      cases Option.some.inj h
      exact ⟨_, by simp [Builtin.len_, run_underlying (und_slice hT hok hd), goInt], .pers (.int _ _)⟩
    · rename_i el f n l hd
      obtain ⟨b, o, cp, rfl, hg, hful, hlen⟩ := hx.ro_inv
      cases Option.some.inj h
      exact ⟨_, by simp [Builtin.len_, run_underlying (und_slice hT hok hd), goInt], .pers (.int _ _)⟩
    · rename_i el hd
      cases hx.nils_inv
      cases Option.some.inj h
      exact ⟨_, by simp [Builtin.len_, run_underlying (und_slice hT hok hd), goInt], .pers (.int _ _)⟩
    · simp [T.run] at h
  · simp [T.run] at h

/-- The elements of a slice or a string, as the model reads them. -/
theorem cells_ok (hI : Inv C E H w) {sz k : Nat} {x : AV} {ys : List AV} {c : Value} (h : cellsOf H sz x = some (k, ys)) (hx : R E x c) :
    ys.length = k * sz ∧ (∀ w', w'.heap = w.heap → (Builtin.lenOf c).run C.P w' = .ok k w') ∧ ∃ cs, RL E ys cs ∧
      ∀ n, n ≤ k → ∀ w', w'.heap = w.heap → (Builtin.firstCells sz n c).run C.P w' = .ok (cs.take (n * sz)).toArray w' := by
  unfold cellsOf at h
  split at h
  · rename_i z id off len cap
    split at h
    · rename_i blk hbk
      cases hq : (Nat.beq z sz && Nat.ble (off + len * sz) blk.cells.length)
      · rw [hq] at h; simp at h
      · rw [hq] at h
        simp only [cond_true, Option.some.injEq, Prod.mk.injEq] at h
        obtain ⟨rfl, rfl⟩ := h
        simp only [Bool.and_eq_true, Nat.beq_eq, Nat.ble_eq] at hq
        obtain ⟨rfl, hfit⟩ := hq
        obtain ⟨b, m, cp, he, rfl, hcap, hlen, hm⟩ := hx.sl_inv
        obtain ⟨b', m', cs, rest, e2, hh', hm', hr⟩ := hI.blk id blk (hget_eq hbk)
        rw [he] at e2; cases e2
        have hlr := hr.length
        refine ⟨by simp; omega, fun w' _ => by simp [Builtin.lenOf], (cs.drop off).take (len * z), (hr.drop _).take _, fun n hn w' hw' => ?_⟩
        have hnz : n * z ≤ len * z := Nat.mul_le_mul_right _ hn
        have hl := run_loadCells_list (P := C.P) w' ⟨b, off, none⟩ ((cs.drop off).take (n * z)) (fun j x hj => by
          rw [addr_add]
          have hj' : j < n * z := by
            rcases Nat.lt_or_ge j (n * z) with h | h
            · exact h
            · rw [List.getElem?_eq_none (by simp; omega)] at hj; cases hj
          rw [List.getElem?_take_of_lt hj', List.getElem?_drop] at hj
          have hb : w'.heap[b]? = some (.cells (cs ++ rest).toArray blk.ty (0, 0)) := by rw [hw']; exact hh'
          rw [cell_of hb, List.getElem?_append_left (by omega)]; exact hj)
        have e : ((cs.drop off).take (n * z)).length = n * z := by simp; omega
        rw [e] at hl
        simp only [Builtin.firstCells, hl]
        rw [List.take_take, Nat.min_eq_left hnz]
    · cases h
  · rename_i f len l
    cases hq : Nat.beq l.length (len * sz)
    · rw [hq] at h; simp at h
    · rw [hq] at h
      simp only [cond_true, Option.some.injEq, Prod.mk.injEq] at h
      obtain ⟨rfl, rfl⟩ := h
      simp only [Nat.beq_eq] at hq
      obtain ⟨b, o, cp, rfl, hg, hful, hlen⟩ := hx.ro_inv
      obtain ⟨cs, hr, hc⟩ := RG.rl hg
      have hlr := hr.length
      refine ⟨hq, fun w' _ => by simp [Builtin.lenOf], cs, hr, fun n hn w' hw' => ?_⟩
      have hnz : n * sz ≤ len * sz := Nat.mul_le_mul_right _ hn
      have hl := run_loadCells_list (P := C.P) w' ⟨b, o, none⟩ (cs.take (n * sz)) (fun j x hj => by
        rw [addr_add]
        have hj' : j < n * sz := by
          rcases Nat.lt_or_ge j (n * sz) with h | h
          · exact h
          · rw [List.getElem?_eq_none (by simp; omega)] at hj; cases hj
        rw [List.getElem?_take_of_lt hj'] at hj
        have := hI.g _ _ _ (hc j x hj)
        unfold World.cell? at this ⊢
        rw [hw']; exact this)
      have e : (cs.take (n * sz)).length = n * sz := by simp; omega
      rw [e] at hl
      simp only [Builtin.firstCells, hl]
  · simp only [Option.some.injEq, Prod.mk.injEq] at h
    obtain ⟨rfl, rfl⟩ := h
    cases hx.nils_inv
    exact ⟨by simp, fun w' _ => by simp [Builtin.lenOf], [], .nil, fun n hn w' _ => by simp [Builtin.firstCells]⟩
  · rename_i s
    cases hq : Nat.beq sz 1
    · rw [hq] at h; simp at h
    · rw [hq] at h
      simp only [cond_true, Option.some.injEq, Prod.mk.injEq] at h
      obtain ⟨rfl, rfl⟩ := h
      simp only [Nat.beq_eq] at hq
      subst hq
      cases hx.str_inv
      refine ⟨by simp, fun w' _ => by have e1 : (⟨s.toArray⟩ : ByteArray).size = s.length := by { simp [ByteArray.size] }; simp [Builtin.lenOf, e1], s.map fun b => .int .u8 b.toNat, ?_, fun n hn w' _ => ?_⟩
      · clear hx
        induction s with
        | nil => exact .nil
        | cons b s ih => exact .cons (.pers (.int _ _)) ih
      · simp only [Builtin.firstCells, extract_str, Sem.run_pure]
        congr 1
        simp [List.map_take]
  · cases h
end
end Go.Ev
