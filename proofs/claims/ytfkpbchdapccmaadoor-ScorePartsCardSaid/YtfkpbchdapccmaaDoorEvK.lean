/- Evaluator: soundness, part 8: copy, conversions, '==' with nil. -/
import Derived.Test.YtfkpbchdapccmaaDoorEvJ
import Derived.Laws.BytesString
import Derived.Laws.IdiomStrings
namespace Go.Ev

section
variable {C : Ctx} {E : Env} {H : Heap} {w : World}

theorem copyA_ok (hT : TyOk C) (hI : Inv C E H w) {ts : List TypeId} {s x v : AV} {c d : Value} {H' : Heap} (type : TypeId) (h : (copyA C H ts s x).run = some (v, H')) (hs : R E s c) (hx : R E x d) :
    ValOk C E H w (Builtin.copy_ ts.toArray type #[c, d]) v H' := by
  unfold copyA at h
  split at h
  rotate_left
  · simp [T.run] at h
  rename_i t rest
  split at h
  rotate_left
  · simp [T.run] at h
  rename_i el hd
  split at h
  · rename_i k ys sz id off len cap hce
    split at h
    rotate_left
    · simp [T.run] at h
    rename_i blk hbk
    obtain ⟨h1, h2⟩ := T.of_chk h
    simp only [T.run, Option.some.injEq, Prod.mk.injEq] at h2
    obtain ⟨rfl, rfl⟩ := h2
    simp only [Bool.and_eq_true, Nat.beq_eq, Nat.ble_eq] at h1
    obtain ⟨⟨⟨⟨hok, hoke⟩, hone⟩, rfl⟩, hfit⟩ := h1
    obtain ⟨hyl, hlen, news, hrn, hfc⟩ := cells_ok hI hce hx
    obtain ⟨b, m, cp, he, rfl, hcap, hlc, hm⟩ := hs.sl_inv
    obtain ⟨b', m', cs, rest', e2, hh', hm', hr⟩ := hI.blk id blk (hget_eq hbk)
    rw [he] at e2; cases e2
    have hlr := hr.length
    have hnl := hrn.length
    have hmn : min k len * (C.ty el).size ≤ len * (C.ty el).size := Nat.mul_le_mul_right _ (Nat.min_le_right _ _)
    have hmn' : min k len * (C.ty el).size ≤ k * (C.ty el).size := Nat.mul_le_mul_right _ (Nat.min_le_left _ _)
    have hrt := hrn.take (min k len * (C.ty el).size)
    have hlt : (news.take (min k len * (C.ty el).size)).length = min k len * (C.ty el).size := by simp; omega
    have honet : oneL (ys.take (min k len * (C.ty el).size)) = true := by
      have : ∀ (l : List AV) (n : Nat), oneL l = true → oneL (l.take n) = true := by
        intro l
        induction l with
        | nil => intro n _; simp [oneL]
        | cons v l ih =>
          intro n h
          simp only [oneL, Bool.and_eq_true] at h
          cases n with
          | zero => rfl
          | succ n => simp [oneL, h.1, ih n h.2]
      exact this _ _ hone
    have hst := run_storeCells_at C.P b off blk.ty (news.take (min k len * (C.ty el).size)) 0 (cs ++ rest').toArray w hh' (by rw [hlt]; simp; omega) (hrt.oneCells honet)
    have e1 : ((cs ++ rest').toArray.toList.take (off + 0) ++ news.take (min k len * (C.ty el).size) ++ (cs ++ rest').toArray.toList.drop (off + 0 + (news.take (min k len * (C.ty el).size)).length)) = setL cs off (news.take (min k len * (C.ty el).size)) ++ rest' := by
      rw [setL_eq _ _ _ (by rw [hlt]; omega)]
      simp only [Nat.add_zero, List.append_assoc]
      rw [List.take_append_of_le_length (by omega), List.drop_append_of_le_length (by rw [hlt]; omega)]
    rw [e1] at hst
    obtain ⟨g1, g2⟩ := inv_set (cells := setL blk.cells off (ys.take (min k len * (C.ty el).size))) (cs := setL cs off (news.take (min k len * (C.ty el).size))) (rest := rest') hI (hget_eq hbk) he (hrt.setL _ hr) (by simpa [length_setL] using hm')
    refine ⟨.int .i64 (min k len : Nat), _, E, ?_, ⟨ELe.refl E, g2, g1, .pers (.int _ _)⟩⟩
    have hf := hfc (min k len) (Nat.min_le_left _ _) w rfl
    simp [Builtin.copy_, run_underlying (und_slice hT hok hd), run_sizeOf hT hoke, hlen w rfl, hf, hst, goInt]
  · rename_i k ys hce
    obtain ⟨h1, h2⟩ := T.of_chk h
    simp only [T.run, Option.some.injEq, Prod.mk.injEq] at h2
    obtain ⟨rfl, rfl⟩ := h2
    simp only [Bool.and_eq_true] at h1
    obtain ⟨hok, hoke⟩ := h1
    obtain ⟨hyl, hlen, news, hrn, hfc⟩ := cells_ok hI hce hx
    cases hs.nils_inv
    have hf := hfc 0 (Nat.zero_le _) w rfl
    refine ValOk.same hI (c := .int .i64 0) ?_ (.pers (.int _ _))
    simp [Builtin.copy_, run_underlying (und_slice hT hok hd), run_sizeOf hT hoke, hlen w rfl, hf, goInt]
  · simp [T.run] at h

theorem bytesOf_ok : ∀ {l : List AV} {s : List UInt8} {cs : List Value}, (bytesOf l).run = some s → RL E l cs → ∃ ns : List Int, cs = ns.map (Value.int .u8) ∧ s = ns.map fun n => UInt8.ofNat n.toNat
  | [], s, cs, h, hr => by cases hr; simp [bytesOf, T.run] at h; exact ⟨[], rfl, by simp [← h]⟩
  | v :: l, s, cs, h, hr => by
    simp only [bytesOf] at h
    obtain ⟨h1, h2⟩ := T.of_chk h
    obtain ⟨r, h3, h4⟩ := T.of_bind h2
    simp only [T.run, Option.some.injEq] at h4
    cases hr with
    | cons hv hr =>
      cases v <;> simp [AV.isI] at h1
      rename_i kk nn
      subst h1
      cases hv.int_inv
      obtain ⟨ns, h5, h6⟩ := bytesOf_ok h3 hr
      exact ⟨nn :: ns, by simp [h5], by simp [← h4, h6, AV.toI]⟩

theorem foldl_push (l : List Int) : ∀ (r : List UInt8), l.foldl (fun (r : ByteArray) n => r.push (UInt8.ofNat n.toNat)) ⟨r.toArray⟩ = ⟨(r ++ l.map fun n => UInt8.ofNat n.toNat).toArray⟩ := by
  induction l with
  | nil => intro r; simp
  | cons n l ih =>
    intro r
    simp only [List.foldl_cons]
    have : (⟨r.toArray⟩ : ByteArray).push (UInt8.ofNat n.toNat) = ⟨(r ++ [UInt8.ofNat n.toNat]).toArray⟩ := by
      apply ByteArray.ext; simp [ByteArray.push]
    rw [this, ih]
    simp

theorem RPL_bytes (G : Gh) : ∀ s : List UInt8, RPL G (s.map fun b => AV.int .u8 b.toNat) (s.map fun b => Value.int .u8 b.toNat)
  | [] => .nil
  | _ :: s => .cons (.int _ _) (RPL_bytes G s)

theorem slice_of {x : AV} {c : Value} {sz : Nat} {r : Nat × List AV} (h : cellsOf H sz x = some r) (hns : ∀ s, x = .str s → False) (hx : R E x c) : ∃ a l cap, c = .slice a l cap := by
  unfold cellsOf at h
  split at h
  · obtain ⟨_, _, _, _, e, _⟩ := hx.sl_inv; exact ⟨_, _, _, e⟩
  · obtain ⟨_, _, _, e, _⟩ := hx.ro_inv; exact ⟨_, _, _, e⟩
  · exact ⟨_, _, _, hx.nils_inv⟩
  · exact absurd rfl (hns _)
  · cases h

theorem convA_ok (hT : TyOk C) (hI : Inv C E H w) {src dst : TypeId} {x v : AV} {c : Value} (h : (convA C H src dst x).run = some v) (hx : R E x c) : ValOk C E H w (convert src dst c) v H := by
  unfold convA at h
  replace h := T.of_chk h
  obtain ⟨hok, h⟩ := h
  simp only [Bool.and_eq_true] at hok
  obtain ⟨hs, hd⟩ := hok
  obtain ⟨ds, hus, hds⟩ := und_of hT hs
  split at h
  · rename_i k k' n he
    cases hx.int_inv
    cases Option.some.inj h
    exact ValOk.same hI (by simp [convert, run_underlying hus, run_underlying (und_int hT hd he), Conv.intToInt]) (.pers (.int _ _))
  · rename_i s he
    cases hx.str_inv
    cases Option.some.inj h
    exact ValOk.same hI (by simp [convert, run_underlying hus, run_underlying (und_string hT hd he)]) (.pers (.str _))
  · rename_i k n he
    cases hx.int_inv
    cases Option.some.inj h
    refine ValOk.same hI (c := .string (Utf8.encode n)) (by simp [convert, run_underlying hus, run_underlying (und_string hT hd he), Conv.intToString]) ?_
    have := RP.str (G := E.G) (Utf8.encode n).data.toList
    exact .pers (by simpa using this)
  · rename_i he hns hni
    split at h
    rotate_left
    · simp [T.run] at h
    rename_i el hel
    split at h
    rotate_left
    · simp [T.run] at h
    rename_i k ys hk hce
    obtain ⟨hoke, h⟩ := T.of_chk h
    obtain ⟨l, h1, h2⟩ := T.of_bind h
    cases Option.some.inj h2
    obtain ⟨hyl, hlen, cs, hrn, hfc⟩ := cells_ok hI hce hx
    obtain ⟨ns, rfl, rfl⟩ := bytesOf_ok h1 hrn
    have hl := hrn.length
    simp only [Nat.mul_one] at hyl hfc
    have hf := hfc k (Nat.le_refl _) w rfl
    rw [take_all (by omega)] at hf
    refine ValOk.same hI (c := .string ⟨(ns.map fun n => UInt8.ofNat n.toNat).toArray⟩) ?_ (.pers (.str _))
    obtain ⟨a, len, cap, rfl⟩ := slice_of hce hns hx
    have hconv : (convert src dst (.slice a len cap)).run C.P w = (Conv.bytesToString (.slice a len cap)).run C.P w := by
      simp [convert, run_underlying (und_slice hT hs hel), run_underlying (und_string hT hd he), run_underlying (und_int hT hoke hk)]
    rw [hconv]
    have hk' : len = k := by
      have := hlen w rfl
      simpa [Builtin.lenOf] using this
    subst hk'
    cases a with
    | none =>
      simp [Builtin.firstCells] at hf
      subst hf
      simp [Conv.bytesToString]
      rfl
    | some a =>
      have hf' : (loadCells a len).run C.P w = .ok (ns.map (Value.int .u8)).toArray w := by simpa [Builtin.firstCells] using hf
      rw [run_bytesToString w a len cap ns hf']
      have := foldl_push ns []
      simp only [List.nil_append] at this
      rw [show (ByteArray.empty) = ⟨([] : List UInt8).toArray⟩ from rfl, this]
  · rename_i el s he
    cases hx.str_inv
    split at h
    rotate_left
    · simp [T.run] at h
    rename_i hk hsd
    obtain ⟨hoke, h⟩ := T.of_chk h
    cases Option.some.inj h
    have hrun := run_bytes_of_string (P := C.P) w src dst el ⟨s.toArray⟩ (und_string hT hs hsd) (und_slice hT hd he) (und_int hT hoke hk)
    have e1 : (⟨s.toArray⟩ : ByteArray).size = s.length := by simp [ByteArray.size]
    obtain ⟨hI1, hS1⟩ := inv_drew hI
    have hr := RPL_bytes E.G s
    have hrow : ∀ cap, bytesRow ⟨s.toArray⟩ cap = ((s.map fun (b : UInt8) => Value.int .u8 b.toNat) ++ List.replicate (cap - s.length) (Value.int .u8 0)).toArray := fun cap => by
      simp [bytesRow, e1]
    rw [hrow, e1] at hrun
    obtain ⟨g1, g2, g3, g4⟩ := inv_ghost (ty := el) (rest := List.replicate (grownCap w s.length 0 el - s.length) (Value.int .u8 0)) (fr := _) hI1 hr
    exact ⟨_, _, _, hrun, ⟨g4, hS1.trans g2, g1, .pers (.ro g3 (by simp) (by simp [grownCap, Question.cut]))⟩⟩
  · simp [T.run] at h

theorem und_ptr (hT : TyOk C) {t e : Nat} (hok : (C.ty t).ok = true) (hd : (C.ty t).desc = .ptr e) : C.P.underlying t = some (.pointer e) := by
  obtain ⟨d, h1, h2⟩ := und_of hT hok
  rw [h1]; rw [hd] at h2
  cases d <;> simp [D.of] at h2
  rw [h2]
theorem und_bool (hT : TyOk C) {t : Nat} (hok : (C.ty t).ok = true) (hd : (C.ty t).desc = .bool) : C.P.underlying t = some .bool := by
  obtain ⟨d, h1, h2⟩ := und_of hT hok
  rw [h1]; rw [hd] at h2
  cases d <;> simp [D.of] at h2
  rfl
theorem und_func (hT : TyOk C) {t : Nat} (hok : (C.ty t).ok = true) (hd : (C.ty t).desc = .func) : ∃ a b c, C.P.underlying t = some (.func a b c) := by
  obtain ⟨d, h1, h2⟩ := und_of hT hok
  rw [hd] at h2
  cases d <;> simp [D.of] at h2
  exact ⟨_, _, _, h1⟩
theorem und_iface (hT : TyOk C) {t : Nat} (hok : (C.ty t).ok = true) (hd : (C.ty t).desc = .iface) : ∃ a, C.P.underlying t = some (.interface a) := by
  obtain ⟨d, h1, h2⟩ := und_of hT hok
  rw [hd] at h2
  cases d <;> simp [D.of] at h2
  exact ⟨_, h1⟩

/-- What the comparison comes to once 'equal' and the guard are known. -/
theorem cmp_of {op : BinOp} {t : TypeId} {x y : Operand} {c d : Value} {r : Bool} (hop : op = .eql ∨ op = .neq) (h1 : (eqGuard op t x y c d).run C.P w = .ok () w) (h2 : binOp .eql t c d = (do pure (.bool (← Op.equal t c d)))) (h2' : binOp .neq t c d = (do pure (.bool (!(← Op.equal t c d)))))
    (h3 : ∀ n, (Op.equalIn (n + 1) t c d).run C.P w = .ok r w) :
    (do eqGuard op t x y c d; binOp op t c d).run C.P w = .ok (.bool (if op = .eql then r else !r)) w := by
  have h4 : (Op.equal t c d).run C.P w = .ok r w := h3 9999
  rcases hop with rfl | rfl
  · rw [h2]; simp [h1, h4]
  · rw [h2']; simp [h1, h4]

theorem isK_inv {x : Operand} (h : isK x = true) : ∃ v, x = .const v := by
  cases x <;> simp [isK] at h
  exact ⟨_, rfl⟩

theorem guard_nili {op : BinOp} {t : TypeId} {x y : Operand} (hop : op = .eql ∨ op = .neq) (h : isK x = true ∨ isK y = true) : (eqGuard op t x y .nilIface .nilIface).run C.P w = .ok () w := by
  rcases h with h | h
  · obtain ⟨v, rfl⟩ := isK_inv h
    rcases hop with rfl | rfl <;> simp [eqGuard]
  · obtain ⟨v, rfl⟩ := isK_inv h
    rcases hop with rfl | rfl <;> simp [eqGuard]

theorem guard_free {op : BinOp} {t : TypeId} {x y : Operand} {c d : Value} (hop : op = .eql ∨ op = .neq) (h1 : c ≠ .nilIface ∨ d ≠ .nilIface) (h2 : ∀ z, c ≠ .agg z) : (eqGuard op t x y c d).run C.P w = .ok () w := by
  rcases hop with rfl | rfl
  · cases c <;> first | (simp [eqGuard]; done) | (exact absurd rfl (h2 _)) | (cases d <;> first | (simp [eqGuard]; done) | (simp at h1))
  · cases c <;> first | (simp [eqGuard]; done) | (exact absurd rfl (h2 _)) | (cases d <;> first | (simp [eqGuard]; done) | (simp at h1))

set_option maxHeartbeats 1000000 in
theorem eqT_ok (hT : TyOk C) {k : Bool} {op : BinOp} {t : TypeId} {x y : Operand} {a b : AV} {c d : Value} {r : Bool} (hok : (C.ty t).ok = true) (hk : k = true → isK x = true ∨ isK y = true) (h : eqT k (C.ty t).desc a b = some r) (ha : R E a c) (hb : R E b d) (hop : op = .eql ∨ op = .neq) :
    (do eqGuard op t x y c d; binOp op t c d).run C.P w = .ok (.bool (if op = .eql then r else !r)) w := by
  have gd : ∀ {c d : Value}, (c ≠ .nilIface ∨ d ≠ .nilIface) → (∀ z, c ≠ .agg z) → (eqGuard op t x y c d).run C.P w = .ok () w := fun h1 h2 => guard_free hop h1 h2
  unfold eqT at h
  split at h
  · rename_i hd
    cases ha.bool_inv; cases hb.bool_inv; cases h
    exact cmp_of hop (gd (by simp) (by simp)) rfl rfl (fun n => run_equalIn_bool w n t _ _ (und_bool hT hok hd))
  · rename_i hd
    cases ha.nilp_inv; cases hb.nilp_inv; cases h
    exact cmp_of hop (gd (by simp) (by simp)) rfl rfl (fun n => by simp [Op.equalIn, run_underlying (und_ptr hT hok hd)])
  · rename_i hd
    cases ha.nilp_inv; obtain ⟨_, _, _, rfl⟩ := hb.own_inv; cases h
    exact cmp_of hop (gd (by simp) (by simp)) rfl rfl (fun n => by simp [Op.equalIn, run_underlying (und_ptr hT hok hd)])
  · rename_i hd
    cases ha.nilp_inv; obtain ⟨_, _, rfl, _⟩ := hb.rp_inv; cases h
    exact cmp_of hop (gd (by simp) (by simp)) rfl rfl (fun n => by simp [Op.equalIn, run_underlying (und_ptr hT hok hd)])
  · rename_i hd
    cases hb.nilp_inv; obtain ⟨_, _, _, rfl⟩ := ha.own_inv; cases h
    exact cmp_of hop (gd (by simp) (by simp)) rfl rfl (fun n => by simp [Op.equalIn, run_underlying (und_ptr hT hok hd)])
  · rename_i hd
    cases hb.nilp_inv; obtain ⟨_, _, rfl, _⟩ := ha.rp_inv; cases h
    exact cmp_of hop (gd (by simp) (by simp)) rfl rfl (fun n => by simp [Op.equalIn, run_underlying (und_ptr hT hok hd)])
  · rename_i hd
    cases ha.nils_inv; cases hb.nils_inv; cases h
    exact cmp_of hop (gd (by simp) (by simp)) rfl rfl (fun n => by simp [Op.equalIn, run_underlying (und_slice hT hok hd)])
  · rename_i hd
    cases ha.nils_inv; obtain ⟨_, _, _, _, rfl, _⟩ := hb.sl_inv; cases h
    exact cmp_of hop (gd (by simp) (by simp)) rfl rfl (fun n => by simp [Op.equalIn, run_underlying (und_slice hT hok hd)])
  · rename_i hd
    cases ha.nils_inv; obtain ⟨_, _, _, rfl, _⟩ := hb.ro_inv; cases h
    exact cmp_of hop (gd (by simp) (by simp)) rfl rfl (fun n => by simp [Op.equalIn, run_underlying (und_slice hT hok hd)])
  · rename_i hd
    cases hb.nils_inv; obtain ⟨_, _, _, _, rfl, _⟩ := ha.sl_inv; cases h
    exact cmp_of hop (gd (by simp) (by simp)) rfl rfl (fun n => by simp [Op.equalIn, run_underlying (und_slice hT hok hd)])
  · rename_i hd
    cases hb.nils_inv; obtain ⟨_, _, _, rfl, _⟩ := ha.ro_inv; cases h
    exact cmp_of hop (gd (by simp) (by simp)) rfl rfl (fun n => by simp [Op.equalIn, run_underlying (und_slice hT hok hd)])
  · rename_i hd
    obtain ⟨_, _, _, hu⟩ := und_func hT hok hd
    cases ha.nilf_inv; cases hb.nilf_inv; cases h
    exact cmp_of hop (gd (by simp) (by simp)) rfl rfl (fun n => by simp [Op.equalIn, run_underlying hu])
  · rename_i hd
    obtain ⟨_, _, _, hu⟩ := und_func hT hok hd
    cases ha.nilf_inv; obtain ⟨_, _, rfl, _⟩ := hb.fn_inv; cases h
    exact cmp_of hop (gd (by simp) (by simp)) rfl rfl (fun n => by simp [Op.equalIn, run_underlying hu])
  · rename_i hd
    obtain ⟨_, _, _, hu⟩ := und_func hT hok hd
    cases hb.nilf_inv; obtain ⟨_, _, rfl, _⟩ := ha.fn_inv; cases h
    exact cmp_of hop (gd (by simp) (by simp)) rfl rfl (fun n => by simp [Op.equalIn, run_underlying hu])
  · rename_i hd
    obtain ⟨_, hu⟩ := und_iface hT hok hd
    cases ha.nili_inv; cases hb.nili_inv
    cases hkk : k
    · rw [hkk] at h; simp at h
    · rw [hkk] at h; simp at h; subst h
      refine cmp_of hop ?_ rfl rfl (fun n => by simp [Op.equalIn, run_underlying hu])
      exact guard_nili hop (hk hkk)
  · rename_i hd
    obtain ⟨_, hu⟩ := und_iface hT hok hd
    cases ha.nili_inv; obtain ⟨_, rfl, _⟩ := hb.ifc_inv; cases h
    exact cmp_of hop (gd (by simp) (by simp)) rfl rfl (fun n => by simp [Op.equalIn, run_underlying hu])
  · rename_i hd
    obtain ⟨_, hu⟩ := und_iface hT hok hd
    cases hb.nili_inv; obtain ⟨_, rfl, _⟩ := ha.ifc_inv; cases h
    exact cmp_of hop (gd (by simp) (by simp)) rfl rfl (fun n => by simp [Op.equalIn, run_underlying hu])
  · cases h
end
end Go.Ev
