/- Evaluator: soundness, part 6: append, copy. -/
import Derived.Test.YtfkpbchdapccmaaDoorEvH
namespace Go.Ev

section
variable {C : Ctx} {E : Env} {H : Heap} {w : World}

theorem growBy_le (need : Nat) : ∀ (r c : Nat), c ≤ need + (need + 768) / 4 → Builtin.growBy need r c ≤ need + (need + 768) / 4
  | 0, c, h => h
  | r + 1, c, h => by
    simp only [Builtin.growBy]
    split
    · exact h
    · exact growBy_le need r _ (by omega)

theorem nextcap_le {need cap : Nat} (h : cap < need) : Builtin.nextslicecap need cap ≤ 2 * need + 1000 := by
  unfold Builtin.nextslicecap
  split
  · omega
  · split
    · omega
    · have := growBy_le need 4 cap (by omega)
      omega

theorem und_notInt (hT : TyOk C) {t : TypeId} (hok : (C.ty t).ok = true) (hd : ∀ k, (C.ty t).desc ≠ .int k) : ∃ d, C.P.underlying t = some d ∧ (∀ k, d ≠ .int k) := by
  obtain ⟨d, h1, h2⟩ := und_of hT hok
  refine ⟨d, h1, fun k e => ?_⟩
  subst e
  exact hd k h2.symm

/-- append where there is room. -/
theorem append_fits (hT : TyOk C) {t t' el k sLen sCap : Nat} {a : Option Addr} {x : Value} {news : List Value} {type : TypeId} (hok : (C.ty t).ok = true) (hok' : (C.ty t').ok = true) (hoke : (C.ty el).ok = true)
    (hd : (C.ty t).desc = .slice el) (hd' : ∀ k, (C.ty t').desc ≠ .int k)
    (hlen : ∀ w' : World, w'.heap = w.heap → (Builtin.lenOf x).run C.P w' = .ok k w') (hnew : ∀ w' : World, w'.heap = w.heap → (Builtin.firstCells (C.ty el).size k x).run C.P w' = .ok news.toArray w')
    (hfit : sLen + k ≤ sCap) {w' : World} (hst : ∀ ad, a = some ad → (storeCells (ad.add (sLen * (C.ty el).size)) news).run C.P w = .ok () w') (hn : a = none → w' = w) :
    (Builtin.append_ #[t, t'] type #[.slice a sLen sCap, x]).run C.P w = .ok (.slice a (sLen + k) sCap) w' := by
  obtain ⟨d, h1, h2⟩ := und_notInt hT hok' hd'
  cases a with
  | none =>
    rw [hn rfl]
    simp [Builtin.append_, run_underlying (und_slice hT hok hd), run_sizeOf hT hoke, run_underlying h1, hlen w rfl, hfit, hnew w rfl]
  | some ad =>
    have := hst ad rfl
    simp [Builtin.append_, run_underlying (und_slice hT hok hd), run_sizeOf hT hoke, run_underlying h1, hlen w rfl, hfit, hnew w rfl, this]

/-- append where there is no room: a new row. -/
theorem append_grows (hT : TyOk C) {t t' el k sLen sCap : Nat} {a : Option Addr} {x : Value} {olds news : List Value} {z : List AV} {type : TypeId} (hok : (C.ty t).ok = true) (hok' : (C.ty t').ok = true) (hoke : (C.ty el).ok = true)
    (hz : (C.ty el).zero = some z) (hd : (C.ty t).desc = .slice el) (hd' : ∀ k, (C.ty t').desc ≠ .int k)
    (hlen : ∀ w' : World, w'.heap = w.heap → (Builtin.lenOf x).run C.P w' = .ok k w') (hnew : ∀ w' : World, w'.heap = w.heap → (Builtin.firstCells (C.ty el).size k x).run C.P w' = .ok news.toArray w')
    (hold : ∀ w' : World, w'.heap = w.heap → (Builtin.firstCells (C.ty el).size sLen (.slice a sLen sCap)).run C.P w' = .ok olds.toArray w')
    (hzl : z.length = (C.ty el).size) (hfit : sCap < sLen + k) (hmax : sLen + k ≤ 9223372036854775807) (hbytes : (2 * (sLen + k) + 1000) * (C.ty el).bytes ≤ maxBytes) :
    ∃ cap rest, sLen + k ≤ cap ∧ rest.length = (cap - (sLen + k)) * (C.ty el).size ∧
      (Builtin.append_ #[t, t'] type #[.slice a sLen sCap, x]).run C.P w = .ok (.slice (some ⟨w.heap.size, 0, none⟩) (sLen + k) cap) (World.alloc { w with drawn := w.drawn + 1 } (.cells (olds ++ news ++ rest).toArray el)) := by
  obtain ⟨d, h1, h2⟩ := und_notInt hT hok' hd'
  obtain ⟨i, hi, hif, his, hib, _⟩ := run_info hT hoke
  obtain ⟨zv, hzv, hzr⟩ := run_zero hT hz hoke
  have e1 : ¬ (sLen + k ≤ sCap) := by omega
  have e2 : ¬ (9223372036854775807 < ((sLen : Int) + (k : Int)) ∧ i.bytes = 0) := by omega
  have e3 : ¬ (281474976710656 < Builtin.nextslicecap (sLen + k) sCap * i.bytes) := by
    have := nextcap_le hfit
    have h4 : Builtin.nextslicecap (sLen + k) sCap * i.bytes ≤ (2 * (sLen + k) + 1000) * i.bytes := Nat.mul_le_mul_right _ this
    rw [← hib] at hbytes
    unfold maxBytes at hbytes
    omega
  have hcap := fun t => (show sLen + k ≤ Question.cut (.appendCap (sLen + k) sCap el) t by simp [Question.cut])
  generalize hc : Question.cut (.appendCap (sLen + k) sCap el) (w.tape w.drawn (.appendCap (sLen + k) sCap el)) = cap
  refine ⟨cap, (Builtin.zeroCells zv.cells (cap - (sLen + k))).toList, hc ▸ hcap _, by have := (hzr ⟨[], fun _ _ => none⟩).length; rw [hzl] at this; simp at this; simp [Builtin.zeroCells, this], ?_⟩
  have hforced : (Question.appendCap (sLen + k) sCap el).forced = false := rfl
  simp [Builtin.append_, run_underlying (und_slice hT hok hd), run_sizeOf hT hoke, run_underlying h1, hlen w rfl, e1, e3, hi, hforced, hc]
  rw [if_neg e2, hold w.drew rfl]
  simp [hnew w.drew rfl, hzv, newRow]
  congr 2
  apply Array.ext'
  simp

theorem notint_of {C : Ctx} {t' : TypeId} (h : ∀ k, (C.ty t').desc = .int k → False) : ∀ k, (C.ty t').desc ≠ .int k := fun k e => h k e

theorem inv_drew (hI : Inv C E H w) : Inv C E H w.drew ∧ Stp E H w E H w.drew := inv_drawn hI _

/-- The new row of an append, the call's own. -/
theorem grown_own (hI : Inv C E H w) {el : TypeId} {l : List AV} {cs rest : List Value} (hr : RL E l cs) :
    ∃ b m E', ELe E E' ∧ Stp E H w E' (alloc H ⟨el, l⟩) (World.alloc { w with drawn := w.drawn + 1 } (.cells (cs ++ rest).toArray el)) ∧
      Inv C E' (alloc H ⟨el, l⟩) (World.alloc { w with drawn := w.drawn + 1 } (.cells (cs ++ rest).toArray el)) ∧ E'.at H.length = some (b, m) ∧ b = w.heap.size ∧ m = (cs ++ rest).length := by
  obtain ⟨h1, h2⟩ := inv_drew hI
  obtain ⟨b, m, E', h3, h4, h5, h6, h7, h8⟩ := newRow_ok (rest := rest) (el := el) h1 hr
  refine ⟨w.heap.size, m, E', h4, h2.trans h5, h6, ?_, rfl, h8⟩
  have : (newRow el (cs ++ rest).toArray).run C.P w.drew = .ok ⟨w.heap.size, 0, none⟩ (w.drew.alloc (.cells (cs ++ rest).toArray el)) := rfl
  rw [this] at h3
  cases h3
  exact h7

theorem grown_ghost (hI : Inv C E H w) {el : TypeId} {l : List AV} {cs rest : List Value} (hr : RL E l cs) (hf : freeL l = true) :
    ∃ E', ELe E E' ∧ Stp E H w E' H (World.alloc { w with drawn := w.drawn + 1 } (.cells (cs ++ rest).toArray el)) ∧
      Inv C E' H (World.alloc { w with drawn := w.drawn + 1 } (.cells (cs ++ rest).toArray el)) ∧ RG E'.G w.heap.size 0 l := by
  obtain ⟨h1, h2⟩ := inv_drew hI
  obtain ⟨b, E', h3, h4, h5, h6, h7⟩ := newRow_ghost (rest := rest) (el := el) h1 hr hf
  have : (newRow el (cs ++ rest).toArray).run C.P w.drew = .ok ⟨w.heap.size, 0, none⟩ (w.drew.alloc (.cells (cs ++ rest).toArray el)) := rfl
  rw [this] at h3
  cases h3
  exact ⟨E', h4, h2.trans h5, h6, h7⟩

theorem take_all {α : Type} {l : List α} {n : Nat} (h : l.length = n) : l.take n = l := List.take_of_length_le (by omega)

/-- What follows an append that grows, in both manners of keeping the row. -/
theorem append_new (hT : TyOk C) (hI : Inv C E H w) {draw : Bool} {t t' el k sLen sCap : Nat} {a : Option Addr} {x : Value} {l ys : List AV} {olds news : List Value} {z : List AV} {type : TypeId} {v : AV} {H' : Heap}
    (hok : (C.ty t).ok = true) (hok' : (C.ty t').ok = true) (hoke : (C.ty el).ok = true)
    (hz : (C.ty el).zero = some z) (hd : (C.ty t).desc = .slice el) (hd' : ∀ k, (C.ty t').desc ≠ .int k) (hzl : z.length = (C.ty el).size)
    (hlen : ∀ w' : World, w'.heap = w.heap → (Builtin.lenOf x).run C.P w' = .ok k w') (hnew : ∀ w' : World, w'.heap = w.heap → (Builtin.firstCells (C.ty el).size k x).run C.P w' = .ok news.toArray w')
    (hold : ∀ w' : World, w'.heap = w.heap → (Builtin.firstCells (C.ty el).size sLen (.slice a sLen sCap)).run C.P w' = .ok olds.toArray w')
    (hro : RL E l olds) (hrn : RL E ys news) (hll : l.length = sLen * (C.ty el).size) (hly : ys.length = k * (C.ty el).size) (hfit : sCap < sLen + k)
    (h : (T.chk (Nat.ble ((2 * (sLen + k) + 1000) * (C.ty el).bytes) maxBytes && Nat.ble (sLen + k) 9223372036854775807)
            (match draw with
             | true => .chk (freeL (l ++ ys)) (.leaf (.ro false (sLen + k) (l ++ ys), H))
             | false => .leaf (.sl (C.ty el).size H.length 0 (sLen + k) none, alloc H ⟨el, l ++ ys⟩))).run = some (v, H')) :
    ValOk C E H w (Builtin.append_ #[t, t'] type #[.slice a sLen sCap, x]) v H' := by
  obtain ⟨h1, h2⟩ := T.of_chk h
  simp only [Bool.and_eq_true, Nat.ble_eq] at h1
  obtain ⟨cap, rest, hcap, hrl, hrun⟩ := append_grows (w := w) (type := type) hT hok hok' hoke hz hd hd' hlen hnew hold hzl hfit h1.2 h1.1
  have hr := hro.append hrn
  have l1 := hro.length
  have l2 := hrn.length
  cases draw with
  | true =>
    obtain ⟨hf, h3⟩ := T.of_chk h2
    simp only [T.run, Option.some.injEq, Prod.mk.injEq] at h3
    obtain ⟨rfl, rfl⟩ := h3
    obtain ⟨E', g1, g2, g3, g4⟩ := grown_ghost (rest := rest) (el := el) hI hr hf
    exact ⟨_, _, E', hrun, g1, g2, g3, .pers (.ro g4 (by simp) hcap)⟩
  | false =>
    simp only [T.run, Option.some.injEq, Prod.mk.injEq] at h2
    obtain ⟨rfl, rfl⟩ := h2
    obtain ⟨b, m, E', g1, g2, g3, g4, rfl, rfl⟩ := grown_own (rest := rest) (el := el) hI hr
    refine ⟨_, _, E', hrun, g1, g2, g3, .sl g4 (by simp) hcap ?_⟩
    rw [List.length_append, List.length_append, ← l1, ← l2, hll, hly, hrl, ← Nat.add_mul, ← Nat.add_mul, show sLen + k + (cap - (sLen + k)) = cap by omega]
    omega

theorem zok_of {C : Ctx} {t t' el : TypeId} {ys : List AV} (h : ((C.ty t).ok && (C.ty t').ok && (C.ty el).ok && (match (C.ty el).zero with | some z => Nat.beq z.length (C.ty el).size | none => false) && oneL ys) = true) :
    (C.ty t).ok = true ∧ (C.ty t').ok = true ∧ (C.ty el).ok = true ∧ (∃ z, (C.ty el).zero = some z ∧ z.length = (C.ty el).size) ∧ oneL ys = true := by
  simp only [Bool.and_eq_true] at h
  obtain ⟨⟨⟨⟨h1, h2⟩, h3⟩, h4⟩, h5⟩ := h
  refine ⟨h1, h2, h3, ?_, h5⟩
  split at h4
  · rename_i z hz; exact ⟨z, hz, by simpa using h4⟩
  · cases h4

theorem hget_set_none {id : Nat} {j : Nat} {x : Blk} (hj : (H.set id none)[j]? = some (some x)) : H[j]? = some (some x) ∧ j ≠ id := by
  by_cases e : id = j
  · subst e
    rw [List.getElem?_set] at hj
    simp at hj
  · rw [List.getElem?_set_ne e] at hj; exact ⟨hj, fun h => e h.symm⟩

theorem appendA_ok (hT : TyOk C) (hI : Inv C E H w) {draw : Bool} {ts : List TypeId} {s x v : AV} {c d : Value} {H' : Heap} (type : TypeId) (h : (appendA C draw H ts s x).run = some (v, H')) (hs : R E s c) (hx : R E x d) :
    ValOk C E H w (Builtin.append_ ts.toArray type #[c, d]) v H' ∧ (draw = true → H' = H) := by
  unfold appendA at h
  split at h
  rotate_left
  · simp [T.run] at h
  rename_i t t'
  split at h
  · simp [T.run] at h
  rotate_left
  · simp [T.run] at h
  rename_i el hd hd'
  have hdn : ∀ k, (C.ty t').desc ≠ .int k := fun k e => hd' _ e
  split at h
  · simp [T.run] at h
  rename_i k ys hce
  obtain ⟨hyl, hlen, news, hrn, hfc⟩ := cells_ok hI hce hx
  have hnl := hrn.length
  have hnew : ∀ w' : World, w'.heap = w.heap → (Builtin.firstCells (C.ty el).size k d).run C.P w' = .ok news.toArray w' := fun w' hw' => by
    rw [hfc k (Nat.le_refl _) w' hw', take_all (by omega)]
  simp only at h
  split at h
  · -- a nil slice
    cases hs.nils_inv
    rcases T.of_br h with ⟨h1, h2⟩ | ⟨h1, h2⟩
    · simp only [Nat.beq_eq] at h1
      subst h1
      obtain ⟨hz, h2⟩ := T.of_chk h2
      simp only [T.run, Option.some.injEq, Prod.mk.injEq] at h2
      obtain ⟨rfl, rfl⟩ := h2
      obtain ⟨hok, hok', hoke, ⟨z, hz, hzl⟩, hone⟩ := zok_of hz
      refine ⟨ValOk.same hI (append_fits (news := news) hT hok hok' hoke hd hdn hlen hnew (by simp) (w' := w) (by simp) (fun _ => rfl)) (.pers .nils), fun _ => rfl⟩
    · have hk : k ≠ 0 := fun e => by subst e; simp at h1
      obtain ⟨h3, h4⟩ := T.of_chk h2
      rw [Bool.and_assoc, Bool.and_eq_true] at h3
      obtain ⟨hok, hok', hoke, ⟨z, hz, hzl⟩, hone⟩ := zok_of h3.1
      refine ⟨append_new (olds := []) (news := news) (l := []) (ys := ys) (sLen := 0) (sCap := 0) hT hI hok hok' hoke hz hd hdn hzl hlen hnew (fun w' _ => by simp [Builtin.firstCells]) .nil hrn (by simp) hyl (by omega) (T_chk h3.2 h4), ?_⟩
      intro hdr; subst hdr
      obtain ⟨_, h5⟩ := T.of_chk h4
      simp only [T.run, Option.some.injEq, Prod.mk.injEq] at h5
      exact h5.2.symm
  · -- a row that is only read, and full
    rename_i len l
    obtain ⟨hl, h⟩ := T.of_chk h
    simp only [Nat.beq_eq] at hl
    obtain ⟨b, o, cap, rfl, hg, hful, hlc⟩ := hs.ro_inv
    obtain rfl := hful rfl
    obtain ⟨cs, hr, hc⟩ := RG.rl hg
    rcases T.of_br h with ⟨h1, h2⟩ | ⟨h1, h2⟩
    · simp only [Nat.beq_eq] at h1
      subst h1
      obtain ⟨hz, h2⟩ := T.of_chk h2
      simp only [T.run, Option.some.injEq, Prod.mk.injEq] at h2
      obtain ⟨rfl, rfl⟩ := h2
      obtain ⟨hok, hok', hoke, ⟨z, hz, hzl⟩, hone⟩ := zok_of hz
      have hn0 : news = [] := List.eq_nil_of_length_eq_zero (by omega)
      subst hn0
      refine ⟨ValOk.same hI (append_fits (news := []) hT hok hok' hoke hd hdn hlen hnew (by simp) (w' := w) (fun ad _ => by simp [storeCells]) (fun _ => rfl)) hs, fun _ => rfl⟩
    · have hk : k ≠ 0 := fun e => by subst e; simp at h1
      obtain ⟨h3, h4⟩ := T.of_chk h2
      rw [Bool.and_assoc, Bool.and_eq_true] at h3
      obtain ⟨hok, hok', hoke, ⟨z, hz, hzl⟩, hone⟩ := zok_of h3.1
      obtain ⟨_, _, cs', hr', hold⟩ := cells_ok (sz := (C.ty el).size) (k := cap) (ys := l) hI (by simp [cellsOf, hl]) hs
      have hcl := hr'.length
      refine ⟨append_new (olds := cs') (news := news) (l := l) (ys := ys) (sLen := cap) (sCap := cap) hT hI hok hok' hoke hz hd hdn hzl hlen hnew
        (fun w' hw' => by rw [hold cap (Nat.le_refl _) w' hw', take_all (by omega)]) hr' hrn hl hyl (by omega) (T_chk h3.2 h4), ?_⟩
      intro hdr; subst hdr
      obtain ⟨_, h5⟩ := T.of_chk h4
      simp only [T.run, Option.some.injEq, Prod.mk.injEq] at h5
      exact h5.2.symm
  · -- a row of the call's own, its capacity known
    rename_i sz id off len cc
    split at h
    rotate_left
    · simp [T.run] at h
    rename_i blk hbk
    refine ⟨?_, fun hdr => by cases hdr⟩
    obtain ⟨h1, h⟩ := T.of_chk h
    rw [Bool.and_assoc, Bool.and_eq_true] at h1
    obtain ⟨hok, hok', hoke, ⟨z, hz, hzl⟩, hone⟩ := zok_of h1.1
    have h1' := h1.2
    simp only [Bool.and_eq_true, Nat.beq_eq, Nat.ble_eq] at h1'
    obtain ⟨rfl, hfit⟩ := h1'
    obtain ⟨b, m, cap, he, rfl, hcap, hlc, hm⟩ := hs.sl_inv
    obtain rfl := hcap _ rfl
    obtain ⟨b', m', cs, rest', e2, hh', hm', hr⟩ := hI.blk id blk (hget_eq hbk)
    rw [he] at e2; cases e2
    have hlr := hr.length
    rcases T.of_br h with ⟨h2, h3⟩ | ⟨h2, h3⟩
    · simp only [Nat.ble_eq] at h2
      obtain ⟨h4, h5⟩ := T.of_chk h3
      simp only [Nat.ble_eq] at h4
      simp only [T.run, Option.some.injEq, Prod.mk.injEq] at h5
      obtain ⟨rfl, rfl⟩ := h5
      have hnl' : off + len * (C.ty el).size + news.length ≤ cs.length := by rw [← hnl, hyl, ← hlr, Nat.add_assoc, ← Nat.add_mul]; exact h4
      have hst := run_storeCells_at C.P b (off + len * (C.ty el).size) blk.ty news 0 (cs ++ rest').toArray w hh' (by simp; omega) (hrn.oneCells hone)
      have e1 : ((cs ++ rest').toArray.toList.take (off + len * (C.ty el).size + 0) ++ news ++ (cs ++ rest').toArray.toList.drop (off + len * (C.ty el).size + 0 + news.length)) = setL cs (off + len * (C.ty el).size) news ++ rest' := by
        rw [setL_eq _ _ _ hnl']
        simp only [Nat.add_zero, List.append_assoc]
        rw [List.take_append_of_le_length (by omega), List.drop_append_of_le_length (by omega)]
      rw [e1] at hst
      obtain ⟨g1, g2⟩ := inv_set (cells := setL blk.cells (off + len * (C.ty el).size) ys) (cs := setL cs (off + len * (C.ty el).size) news) (rest := rest') hI (hget_eq hbk) he (hrn.setL _ hr) (by simpa [length_setL] using hm')
      refine ⟨_, _, E, append_fits (news := news) hT hok hok' hoke hd hdn hlen hnew h2 (w' := w.setRow b (setL cs (off + len * (C.ty el).size) news ++ rest').toArray) (fun ad had => ?_) (fun hn => by cases hn), ⟨ELe.refl E, g2, g1, .sl he (fun c hc => by cases hc; rfl) h2 hm⟩⟩
      cases had
      rw [addr_add]; exact hst
    · have h2' : cap < len + k := by
        rcases Nat.lt_or_ge cap (len + k) with h | h
        · exact h
        · rw [show Nat.ble (len + k) cap = true by rw [Nat.ble_eq]; exact h] at h2; cases h2
      obtain ⟨h4, h5⟩ := T.of_chk h3
      rw [Bool.and_assoc, Bool.and_eq_true] at h4
      obtain ⟨_, _, cs', hr', hold⟩ := cells_ok (sz := (C.ty el).size) (k := len) (ys := (blk.cells.drop off).take (len * (C.ty el).size)) hI (by simp [cellsOf, hbk, show Nat.ble (off + len * (C.ty el).size) blk.cells.length = true by rw [Nat.ble_eq]; exact hfit]) hs
      have hcl := hr'.length
      have hll : ((blk.cells.drop off).take (len * (C.ty el).size)).length = len * (C.ty el).size := by simp; omega
      exact append_new (draw := false) (olds := cs') (news := news) (ys := ys) (sLen := len) (sCap := cap) hT hI hok hok' hoke hz hd hdn hzl hlen hnew
        (fun w' hw' => by rw [hold len (Nat.le_refl _) w' hw', take_all (by omega)]) hr' hrn hll hyl h2' (T_chk h4.2 h5)
  · -- a row of the call's own, its capacity not known
    rename_i sz id len
    split at h
    rotate_left
    · simp [T.run] at h
    rename_i blk hbk
    refine ⟨?_, fun hdr => by cases hdr⟩
    obtain ⟨h1, h⟩ := T.of_chk h
    simp only [T.run, Option.some.injEq, Prod.mk.injEq] at h
    obtain ⟨rfl, rfl⟩ := h
    rw [Bool.and_assoc, Bool.and_assoc, Bool.and_assoc, Bool.and_assoc, Bool.and_eq_true] at h1
    obtain ⟨hok, hok', hoke, ⟨z, hz, hzl⟩, hone⟩ := zok_of h1.1
    have h1' := h1.2
    simp only [Bool.and_eq_true, Nat.beq_eq, Nat.ble_eq] at h1'
    obtain ⟨rfl, hty, hfit, hby, hmx⟩ := h1'
    obtain ⟨bty, bcells⟩ := blk
    simp only at hty hfit
    replace hty := hty.symm
    subst hty
    obtain ⟨b, m, cap, he, rfl, hcap, hlc, hm⟩ := hs.sl_inv
    obtain ⟨b', m', cs, rest', e2, hh', hm', hr⟩ := hI.blk id _ (hget_eq hbk)
    rw [he] at e2; cases e2
    simp only at hr hh'
    have hlr := hr.length
    obtain ⟨_, _, cs', hr', hold⟩ := cells_ok (sz := (C.ty el).size) (k := len) (ys := bcells) hI (by simp [cellsOf, hbk, show Nat.ble (len * (C.ty el).size) bcells.length = true by rw [Nat.ble_eq]; omega, take_all hfit.symm]) hs
    have hcl := hr'.length
    obtain ⟨hI0, hS0⟩ := inv_none hI id
    have hlen0 : (H.set id none).length = H.length := by simp
    by_cases hroom : len + k ≤ cap
    · have hnl' : len * (C.ty el).size + news.length ≤ (cs ++ rest').length := by
        rw [← hnl, hyl, ← Nat.add_mul, hm']
        have : (len + k) * (C.ty el).size ≤ cap * (C.ty el).size := Nat.mul_le_mul_right _ hroom
        omega
      have hst := run_storeCells_at C.P b (0 + len * (C.ty el).size) el news 0 (cs ++ rest').toArray w hh' (by simp at hnl' ⊢; omega) (hrn.oneCells hone)
      have e1 : ((cs ++ rest').toArray.toList.take (0 + len * (C.ty el).size + 0) ++ news ++ (cs ++ rest').toArray.toList.drop (0 + len * (C.ty el).size + 0 + news.length)) = (cs ++ news) ++ rest'.drop news.length := by
        simp only [Nat.add_zero, Nat.zero_add]
        rw [List.take_append_of_le_length (by omega), take_all (by omega), List.drop_append, List.drop_of_length_le (by omega)]
        simp
        congr 1
        omega
      rw [e1] at hst
      have hblk : (World.setRow w b ((cs ++ news) ++ rest'.drop news.length).toArray).heap[b]? = some (.cells ((cs ++ news) ++ rest'.drop news.length).toArray el (0, 0)) := setRow_heap w b _ _ _ _ hh'
      have hlm : ((cs ++ news) ++ rest'.drop news.length).length = m := by simp at hm' hnl' ⊢; omega
      have hown : OwnB E H b := ⟨id, _, m, hget_eq hbk, he⟩
      have hin : Inv C (E.more b m) (alloc (H.set id none) ⟨el, bcells ++ ys⟩) (w.setRow b ((cs ++ news) ++ rest'.drop news.length).toArray) := by
        refine inv_more (cs := cs ++ news) (rest := rest'.drop news.length) hI0 ?_ ?_ ?_ hblk hlm ((hr.append hrn).mono (ELe.more E b m))
        · intro b1 o c hg
          have hne : b1 ≠ b := fun e => hI.sep _ _ _ hg (e ▸ hown)
          rw [cell_setRow_ne _ (by exact hne)]; exact hI.g _ _ _ hg
        · intro j bl b1 m1 hj hj1
          obtain ⟨hj', hji⟩ := hget_set_none hj
          have hne : b1 ≠ b := fun e => by subst e; exact hji (hI.inj _ _ _ _ _ _ _ hj' (hget_eq hbk) hj1 he)
          exact ⟨heap_setRow_ne _ hne, hne⟩
        · intro o c hg; exact hI.sep _ _ _ hg hown
      have hstp : Stp E H w (E.more b m) (alloc (H.set id none) ⟨el, bcells ++ ys⟩) (w.setRow b ((cs ++ news) ++ rest'.drop news.length).toArray) := by
        refine ⟨(ELe.more E b m).G, fun _ _ _ h => .inl h, ?_, ?_, by rw [size_setRow]; exact Nat.le_refl _, rfl, rfl, rfl⟩
        · intro b1 ho
          rcases own_more (by rw [hlen0]; exact hI.len) ho with h | rfl
          · exact hS0.own _ h
          · exact .inl hown
        · intro b1 _ hno
          rw [heap_setRow_ne]
          intro e; subst e; exact hno hown
      have hρ : (E.more b m).at H.length = some (b, m) := by rw [Env.at_get]; simp [Env.more, ← hI.len]
      refine ⟨_, _, _, append_fits (news := news) hT hok hok' hoke hd hdn hlen hnew hroom (w' := w.setRow b ((cs ++ news) ++ rest'.drop news.length).toArray) (fun ad had => ?_) (fun hn => by cases hn), ⟨ELe.more E b m, hstp, hin, .sl hρ (fun c hc => by cases hc) hroom hm⟩⟩
      cases had
      rw [addr_add]; exact hst
    · have h2' : cap < len + k := by omega
      have key := append_new (w := w) (draw := false) (type := type) (v := .sl (C.ty el).size (H.set id none).length 0 (len + k) none) (H' := alloc (H.set id none) ⟨el, bcells ++ ys⟩) (olds := cs') (news := news) (l := bcells) (ys := ys) (sLen := len) (sCap := cap) hT hI0 hok hok' hoke hz hd hdn hzl hlen hnew
        (fun w' hw' => by rw [hold len (Nat.le_refl _) w' hw', take_all (by omega)]) hr' hrn (by omega) hyl h2' (by simp only [T.chk, T.run]; rw [show (Nat.ble ((2 * (len + k) + 1000) * (C.ty el).bytes) maxBytes && Nat.ble (len + k) 9223372036854775807) = true by rw [Bool.and_eq_true, Nat.ble_eq, Nat.ble_eq]; exact ⟨hby, hmx⟩]; rfl)
      rw [hlen0] at key
      obtain ⟨c, w', E', k1, k2⟩ := key
      exact ⟨c, w', E', k1, ⟨k2.le, hS0.trans k2.stp, k2.inv, k2.r⟩⟩
  · simp [T.run] at h
where
  T_chk {α : Type} {b : Bool} {t : T α} {r : α} (h : b = true) (h' : t.run = some r) : (T.chk b t).run = some r := by subst h; exact h'
end
end Go.Ev
