/- Evaluator: soundness, part 1: cells, loads, stores, new blocks. -/
import Derived.Test.YtfkpbchdapccmaaDoorEvC
import Derived.Laws.Cells
import Derived.Laws.CopyRow
import Derived.Laws.Tables
import Derived.Laws.NewBlocks
namespace Go.Ev

/-- What the tables say of the program's types. -/
def TyOk (C : Ctx) : Prop := ∀ t, (C.ty t).ok = true →
  (∃ d, C.P.underlying t = some d ∧ D.of d = (C.ty t).desc) ∧
  ∃ i, C.P.info? t = some i ∧ i.size = (C.ty t).size ∧ i.bytes = (C.ty t).bytes ∧ ∀ z, (C.ty t).zero = some z → ∃ zv, i.zero = some zv ∧ (ofV zv).cells = z

section
variable {C : Ctx} {E : Env} {H : Heap} {w : World}

theorem cell_of {l : List Value} {b o : Nat} {ty : TypeId} {fr : Nat × Nat} (hb : w.heap[b]? = some (.cells l.toArray ty fr)) : w.cell? ⟨b, o, none⟩ = l[o]? := by
  simp [World.cell?, hb]

theorem addr_add (b o i : Nat) : (⟨b, o, none⟩ : Addr).add i = ⟨b, o + i, none⟩ := by
  unfold Addr.add; split
  · simp_all
  · rfl

theorem expose_eq {d : D} {x v : AV} (h : (expose d x).run = some v) : v = x := by
  unfold expose at h
  split at h
  · obtain ⟨h1, h2⟩ := T.of_chk h
    cases x <;> simp [AV.isI] at h1
    subst h1; simpa [T.run, AV.toI] using h2.symm
  · obtain ⟨h1, h2⟩ := T.of_chk h
    cases x <;> simp [AV.isB] at h1
    simpa [T.run, AV.toB] using h2.symm
  · obtain ⟨h1, h2⟩ := T.of_chk h
    cases x <;> simp [AV.isS] at h1
    simpa [T.run, AV.toS] using h2.symm
  · rcases T.of_br h with ⟨h1, h2⟩ | ⟨_, h2⟩
    · cases x <;> simp [AV.isRo] at h1
      simpa [T.run, AV.roF, AV.roN, AV.roL] using h2.symm
    · simpa [T.run] using (T.of_chk h2).2.symm
  · simpa [T.run] using (T.of_chk h).2.symm

theorem exposeL_eq : ∀ (ds : List D) (l : List AV) (i : Nat) {vs : List AV}, (exposeL ds l i).run = some vs → i + ds.length ≤ l.length → vs = (l.drop i).take ds.length
  | [], l, i, vs, h, _ => by simp [exposeL, T.run] at h; simp [← h]
  | d :: ds, l, i, vs, h, hl => by
    simp only [exposeL] at h
    obtain ⟨v, hv, h⟩ := T.of_bind h
    obtain ⟨vs', hvs, h⟩ := T.of_bind h
    simp only [T.run, Option.some.injEq] at h
    subst h
    have e1 := expose_eq hv
    have e2 := exposeL_eq ds l (i + 1) hvs (by simp at hl; omega)
    have hi : i < l.length := by simp at hl; omega
    subst e1 e2
    rw [List.length_cons, List.drop_eq_getElem_cons hi, List.take_succ_cons]
    congr 1
    simp [List.getD, hi]

theorem getT_eq {ti : TI} {l : List AV} {i : Nat} {v : AV} (h : (getT ti l i).run = some v) :
    ti.ok = true ∧ ((isAggD ti.desc = true ∧ i + ti.size ≤ l.length ∧ v = .agg ((l.drop i).take ti.size)) ∨ (isAggD ti.desc = false ∧ i < l.length ∧ v = l.getD i .undef)) := by
  unfold getT at h
  split at h
  · rename_i ha
    obtain ⟨h1, h2⟩ := T.of_chk h
    simp only [Bool.and_eq_true, Nat.beq_eq, Nat.ble_eq] at h1
    obtain ⟨⟨h0, h1⟩, h3⟩ := h1
    obtain ⟨vs, hvs, h2⟩ := T.of_bind h2
    simp only [T.run, Option.some.injEq] at h2
    have := exposeL_eq _ _ _ hvs (by omega)
    rw [h1] at this
    exact ⟨h0, .inl ⟨ha, h3, by rw [← h2, this]⟩⟩
  · rename_i ha
    obtain ⟨h1, h2⟩ := T.of_chk h
    simp only [Bool.and_eq_true, Nat.ble_eq] at h1
    exact ⟨h1.1, .inr ⟨ha, h1.2, expose_eq h2⟩⟩

theorem run_isAgg (hT : TyOk C) {t : TypeId} (h : (C.ty t).ok = true) : (isAgg t).run C.P w = .ok (isAggD (C.ty t).desc) w := by
  obtain ⟨⟨d, hd, he⟩, _⟩ := hT t h
  rw [← he]
  cases d <;> simp [isAgg, run_underlying hd, D.of, isAggD]

theorem run_sizeOf (hT : TyOk C) {t : TypeId} (h : (C.ty t).ok = true) : (sizeOf t).run C.P w = .ok (C.ty t).size w := by
  obtain ⟨_, i, hi, hs, _⟩ := hT t h
  simp [sizeOf, typeInfo, hi, hs]

theorem run_info (hT : TyOk C) {t : TypeId} (h : (C.ty t).ok = true) : ∃ i, (∀ w, (typeInfo t).run C.P w = .ok i w) ∧ C.P.info? t = some i ∧ i.size = (C.ty t).size ∧ i.bytes = (C.ty t).bytes ∧ ∀ z, (C.ty t).zero = some z → ∃ zv, i.zero = some zv ∧ (ofV zv).cells = z := by
  obtain ⟨_, i, hi, hs, hb, hz⟩ := hT t h
  exact ⟨i, fun w => by simp [typeInfo, hi], hi, hs, hb, hz⟩

theorem RP_ofV1 (G : Gh) (c : Value) : RP G (ofV1 c) c := by
  unfold ofV1
  split
  · exact .bool _
  · exact .int _ _
  · rename_i s
    have := RP.str (G := G) s.data.toList
    simpa using this
  · exact .nilp
  · exact .nils
  · exact .nilf
  · exact .nili
  · exact .undef _

theorem RPL_ofV1 (G : Gh) : ∀ (cs : List Value), RPL G (cs.map ofV1) cs
  | [] => .nil
  | c :: cs => .cons (RP_ofV1 G c) (RPL_ofV1 G cs)

theorem RP_ofV (G : Gh) (c : Value) : RP G (ofV c) c := by
  unfold ofV
  split
  · rename_i cs
    have := RP.agg (RPL_ofV1 G cs.toList)
    simpa using this
  · rename_i cs
    have := RP.tup (RPL_ofV1 G cs.toList)
    simpa using this
  · exact RP_ofV1 G c

theorem ofV1_cells (c : Value) : (ofV1 c).cells = [ofV1 c] := by
  unfold ofV1; split <;> rfl

theorem RPL_ofV_cells (G : Gh) (c : Value) : RPL G (ofV c).cells c.cells.toList := by
  cases c with
  | agg cs => simpa [ofV, AV.cells, Value.cells] using RPL_ofV1 G cs.toList
  | tuple cs =>
    have := RP_ofV G (.tuple cs)
    simpa [ofV, AV.cells, Value.cells] using RPL.cons this .nil
  | _ => 
    simp only [ofV, ofV1_cells, Value.cells]
    exact .cons (RP_ofV1 G _) .nil

/-- The cells of a value. -/
theorem R.cells {v : AV} {c : Value} (h : R E v c) (hu : v ≠ .undef) : RL E v.cells c.cells.toList := by
  cases v with
  | undef => exact absurd rfl hu
  | agg l => obtain ⟨cs, rfl, hl⟩ := h.agg_inv; simpa [AV.cells, Value.cells] using hl
  | bool b => cases h.bool_inv; exact .cons h .nil
  | int k n => cases h.int_inv; exact .cons h .nil
  | str s => cases h.str_inv; exact .cons h .nil
  | tup l => obtain ⟨cs, rfl, _⟩ := h.tup_inv; exact .cons h .nil
  | nilp => cases h.nilp_inv; exact .cons h .nil
  | own id off => obtain ⟨b, m, _, rfl⟩ := h.own_inv; exact .cons h .nil
  | rp l => obtain ⟨b, m, rfl, _⟩ := h.rp_inv; exact .cons h .nil
  | sl sz id off len cap => obtain ⟨b, m, c, _, rfl, _⟩ := h.sl_inv; exact .cons h .nil
  | nils => cases h.nils_inv; exact .cons h .nil
  | ro f n l => obtain ⟨b, m, c, rfl, _⟩ := h.ro_inv; exact .cons h .nil
  | fn f l l' => obtain ⟨b, m, rfl, _⟩ := h.fn_inv; exact .cons h .nil
  | nilf => cases h.nilf_inv; exact .cons h .nil
  | nili => cases h.nili_inv; exact .cons h .nil
  | ifc t v => obtain ⟨c, rfl, _⟩ := h.ifc_inv; exact .cons h .nil

theorem R.oneCell {v : AV} {c : Value} (h : R E v c) (ho : v.one = true) : c.oneCell' = true := by
  cases v with
  | undef => simp [AV.one] at ho
  | agg l => simp [AV.one] at ho
  | tup l => simp [AV.one] at ho
  | bool b => cases h.bool_inv; rfl
  | int k n => cases h.int_inv; rfl
  | str s => cases h.str_inv; rfl
  | nilp => cases h.nilp_inv; rfl
  | own id off => obtain ⟨b, m, _, rfl⟩ := h.own_inv; rfl
  | rp l => obtain ⟨b, m, rfl, _⟩ := h.rp_inv; rfl
  | sl sz id off len cap => obtain ⟨b, m, c, _, rfl, _⟩ := h.sl_inv; rfl
  | nils => cases h.nils_inv; rfl
  | ro f n l => obtain ⟨b, m, c, rfl, _⟩ := h.ro_inv; rfl
  | fn f l l' => obtain ⟨b, m, rfl, _⟩ := h.fn_inv; rfl
  | nilf => cases h.nilf_inv; rfl
  | nili => cases h.nili_inv; rfl
  | ifc t v => obtain ⟨c, rfl, _⟩ := h.ifc_inv; rfl

theorem RL.oneCells : ∀ {l : List AV} {cs : List Value}, RL E l cs → oneL l = true → ∀ c ∈ cs, c.oneCell' = true
  | _, _, .nil, _ => by simp
  | _, _, .cons a l, h => by
    simp only [oneL, Bool.and_eq_true] at h
    intro c hc
    rcases List.mem_cons.1 hc with rfl | hc
    · exact a.oneCell h.1
    · exact RL.oneCells l h.2 c hc

theorem hget_eq {id : Nat} {b : Blk} (h : hget H id = some b) : H[id]? = some (some b) := by
  unfold hget at h
  split at h
  · rename_i b' hb; rw [hb]; simp at h; rw [h]
  · simp at h

/-- A load of a type out of a row of cells. -/
theorem load_row (hT : TyOk C) {t : TypeId} {l : List AV} {cs rest : List Value} {off b : Nat} {v : AV} (h : (getT (C.ty t) l off).run = some v) (hr : RL E l cs)
    (hc : ∀ j x, cs[j]? = some x → w.cell? ⟨b, j + rest.length, none⟩ = some x) :
    ∃ c, (loadVar t ⟨b, off + rest.length, none⟩).run C.P w = .ok c w ∧ R E v c := by
  obtain ⟨hok, h⟩ := getT_eq h
  have hlen := hr.length
  rcases h with ⟨ha, hl, rfl⟩ | ⟨ha, hl, rfl⟩
  · refine ⟨.agg ((cs.drop off).take (C.ty t).size).toArray, ?_, .agg ((hr.drop off).take _)⟩
    have hlc := run_loadCells_list (P := C.P) w ⟨b, off + rest.length, none⟩ ((cs.drop off).take (C.ty t).size) (fun j x hx => by
      rw [addr_add]
      have hj : j < (C.ty t).size := by
        rcases Nat.lt_or_ge j (C.ty t).size with h | h
        · exact h
        · rw [List.getElem?_eq_none (by simp; omega)] at hx; cases hx
      rw [List.getElem?_take_of_lt hj, List.getElem?_drop] at hx
      have := hc _ _ hx
      rwa [show off + rest.length + j = off + j + rest.length by omega])
    have e : ((cs.drop off).take (C.ty t).size).length = (C.ty t).size := by simp; omega
    rw [e] at hlc
    simp [loadVar, run_isAgg hT hok, ha, run_sizeOf hT hok, hlc]
  · obtain ⟨c, h1, h2⟩ := hr.get off hl
    refine ⟨c, ?_, h2⟩
    simp [loadVar, run_isAgg hT hok, ha, hc _ _ h1]

theorem RG.rl {b : Nat} : ∀ {l : List AV} {o : Nat}, RG E.G b o l → ∃ cs : List Value, RL E l cs ∧ ∀ j x, cs[j]? = some x → E.G b (o + j) = some x
  | _, _, .nil _ _ => ⟨[], .nil, by simp⟩
  | _, _, .cons (c := c) a v l => by
    obtain ⟨cs, h1, h2⟩ := RG.rl l
    refine ⟨c :: cs, .cons (.pers v) h1, fun j x hx => ?_⟩
    cases j with
    | zero => simp at hx; subst hx; exact a
    | succ j => simp at hx; rw [← h2 j x hx]; congr 1; omega

theorem loadA_ok (hT : TyOk C) (hI : Inv C E H w) {t : TypeId} {p v : AV} {c : Value} (h : (loadA C H t p).run = some v) (hp : R E p c) :
    ∃ x, (Instr.loadAt t c).run C.P w = .ok x w ∧ R E v x := by
  unfold loadA at h
  split at h
  · rename_i id off
    split at h
    · rename_i blk hb
      obtain ⟨b, m, e1, rfl⟩ := hp.own_inv
      obtain ⟨b', m', cs, rest, e2, hh, hm, hr⟩ := hI.blk id blk (hget_eq hb)
      rw [e1] at e2; cases e2
      obtain ⟨x, h1, h2⟩ := load_row (rest := []) (b := b) (w := w) hT h hr (fun j x hx => by
        have hj : j < cs.length := by
          rcases Nat.lt_or_ge j cs.length with h | h
          · exact h
          · rw [List.getElem?_eq_none h] at hx; cases hx
        rw [cell_of hh]; simp [List.getElem?_append_left hj, hx])
      exact ⟨x, by simpa [Instr.loadAt, Instr.sureAddr] using h1, h2⟩
    · simp [T.run] at h
  · rename_i l
    obtain ⟨b, o, rfl, hg⟩ := hp.rp_inv
    obtain ⟨cs, hr, hc⟩ := RG.rl hg
    obtain ⟨x, h1, h2⟩ := load_row (rest := List.replicate o (.bool true)) (b := b) (w := w) hT h hr (fun j x hx => by
      have := hI.g _ _ _ (hc j x hx)
      simpa [Nat.add_comm] using this)
    exact ⟨x, by simpa [Instr.loadAt, Instr.sureAddr] using h1, h2⟩
  · simp [T.run] at h
end
end Go.Ev
