/- Chapter 17: what is written is read back. -/
import Derived.Test.YtfkpbchdapccmaaDoorB3
namespace Go.Proofs.YtfkpbchdapccmaaDoor
open Go Go.Ev

def bP (s : List UInt8) : Option AV :=
  bif Nat.ble s.length 140737488355328 then bif pE s == 0 then bif conB (pC s).1 (pC s).2.1 (pC s).2.2.1 (pC s).2.2.2 then
    bif !(writeK (pC s).1 (pC s).2.1 (pC s).2.2.1 (pC s).2.2.2 (pT s) == s) then no else bif writeE (pC s).1 (pC s).2.1 (pC s).2.2.1 (pC s).2.2.2 (pT s) != 0 then no else yes
    else none else yes else none
def bS (s : List UInt8) : Option AV :=
  bif rE s == 0 then bif conB (rC s).1 (rC s).2.1 (rC s).2.2.1 (rC s).2.2.2 then
    bif !(text (rC s).1 (rC s).2.1 (rC s).2.2.1 (rC s).2.2.2 == s) then no else bif textE (rC s).1 (rC s).2.1 (rC s).2.2.1 (rC s).2.2.2 != 0 then no else bP s
    else none else bP s
def bTail (W V s : List UInt8) : Option AV :=
  bif decide ((W.length : Int) < V.length) then no else bif true && leI 0 V.length && leI V.length W.length then
    bif !(List.drop (Int.toNat 0) (List.take ((V.length : Int)).toNat W) == V) then no else bS s else none
def sameC (x : Int × Int × Int × Int) (a b r d : Int) : Bool := x.1 == a && (x.2.1 == b && (x.2.2.1 == r && (x.2.2.2 == d && true)))
def bTree (a b r d t a' b' r' d' t' : Int) (s : List UInt8) : Option AV :=
  bif conB a b r d then bif conB a' b' r' d' then bif Nat.ble (writeK a b r d t).length 140737488355328 then bif conB a b r d then
    bif writeE a b r d t != 0 then no else bif writeE a' b' r' d' t' != 0 then no else bif pE (writeK a b r d t) != 0 then no else bif textE a b r d != 0 then no else bif rE (text a b r d) != 0 then no else
    bif !(sameC (pC (writeK a b r d t)) a b r d) then no else bif pT (writeK a b r d t) != t then no else bif !(sameC (rC (text a b r d)) a b r d) then no else
    bif a == a' && (b == b' && (r == r' && (d == d' && true))) then
      bif !((writeK a b r d t == writeK a' b' r' d' t') == (t == t')) then no else bTail (writeK a b r d t) (text a b r d) s
    else bif !((writeK a b r d t == writeK a' b' r' d' t') == false) then no else bTail (writeK a b r d t) (text a b r d) s
  else none else none else none else none
theorem t9 (m n : Int) (s : List UInt8) : (calls C8 60 9 [.int .u32 m, .int .u32 n, .str s]).run = bif u32B m then bif u32B n then bTree (mA m) (mB m) (mR m) (mD m) (mT m) (mA n) (mB n) (mR n) (mD n) (mT n) s else none else none := by kernel_rfl

/-! ### What is written -/
theorem spL_app : ∀ (l w : List UInt8) (a i : Int), spL (l ++ w) a i = spL w (spL l a i) (i + l.length)
  | [], w, a, i => by simp [spL]
  | c :: l, w, a, i => by
    show spL (l ++ w) _ (i + 1) = spL w (spL l _ (i + 1)) _
    rw [spL_app l w]
    have : i + 1 + (l.length : Int) = i + ((c :: l).length : Int) := by simp; omega
    rw [this]
theorem spL_no : ∀ (l : List UInt8) (a i : Int), l.contains 32 = false → spL l a i = a
  | [], _, _, _ => rfl
  | c :: l, a, i, h => by
    simp only [List.contains_cons, Bool.or_eq_false_iff] at h
    have hc : (((c.toNat : Nat) : Int) == 32) = false := by
      have : c ≠ 32 := by intro e; rw [e] at h; simp at h
      simp only [beq_eq_false_iff_ne, ne_eq]
      intro e
      apply this
      apply UInt8.toNat.inj
      have : c.toNat = 32 := by omega
      rw [this]; rfl
    show spL l (bif (((c.toNat : Nat) : Int) == 32) then i else a) (i + 1) = a
    rw [hc]
    exact spL_no l a (i + 1) h.2
theorem lastB_at (u v : List UInt8) (h : v.contains 32 = false) : lastB (u ++ 32 :: v) = u.length := by
  rw [lastB_eq, spL_app]
  show spL v (0 + (u.length : Int)) _ = _
  rw [spL_no v _ _ h]; omega
theorem tailW_sp : ((rng 0 14).all fun m => (tailW m == 32 :: (tailW m).drop 1) && (!((tailW m).drop 1).contains 32 && ((tailW (-m) == 32 :: (tailW (-m)).drop 1) && !((tailW (-m)).drop 1).contains 32))) = true := by kernel_rfl
theorem tailW_form {m : Int} (h1 : -13 ≤ m) (h2 : m ≤ 13) : ∃ v, tailW m = 32 :: v ∧ v.contains 32 = false := by
  have key := List.all_eq_true.1 tailW_sp
  by_cases hm : m < 0
  · have := key (-m) (mem_rng (by omega) (by omega))
    simp only [Bool.and_eq_true, Int.neg_neg, beq_iff_eq, Bool.not_eq_true'] at this
    exact ⟨_, this.2.2.1, this.2.2.2⟩
  · have := key m (mem_rng (by omega) (by omega))
    simp only [Bool.and_eq_true, beq_iff_eq, Bool.not_eq_true'] at this
    exact ⟨_, this.1, this.2.1⟩
theorem tailW_inj {m m' : Int} (h1 : -13 ≤ m) (h2 : m ≤ 13) (h1' : -13 ≤ m') (h2' : m' ≤ 13) (h : tailW m = tailW m') : m = m' := by
  obtain ⟨v, hv, _⟩ := tailW_form h1 h2
  rcases tail_of h1 h2 hv with ⟨e, ev⟩ | ⟨e1, e2, e3⟩ <;> rcases tail_of h1' h2' (h ▸ hv) with ⟨e', ev'⟩ | ⟨e1', e2', e3'⟩
  · omega
  · rw [ev] at e1'; cases e1'
  · rw [ev'] at e1; cases e1
  · omega
theorem fnd_dom : domR.map (fun x => fnd (text x.1 x.2.1 x.2.2.1 x.2.2.2)) = domR.map fun x => some x := by kernel_rfl
theorem domR_right : (domR.all fun x => right x.1 x.2.1 x.2.2.1 x.2.2.2) = true := by kernel_rfl
theorem mem_domR {a b r d : Int} (hc : conB a b r d = true) (h : right a b r d = true) : (a, b, r, d) ∈ domR := by
  cases h0 : a == 0
  · obtain ⟨g1, g2, g3, g4⟩ := (right_iff hc h0).1 h
    exact List.mem_cons_of_mem _ (mem_domT g1.1 g1.2 g2.1 g2.2 g3.1 g3.2 g4.1 g4.2)
  · obtain rfl : a = 0 := by simpa using h0
    obtain ⟨rfl, rfl, rfl⟩ := right_zero.1 h
    exact List.mem_cons_self ..
theorem rC_text {a b r d : Int} (hc : conB a b r d = true) (h : right a b r d = true) : rC (text a b r d) = (a, b, r, d) ∧ rE (text a b r d) = 0 := by
  have := allEq fnd_dom _ (mem_domR hc h)
  simp only at this
  unfold rC rE
  rw [this]
  exact ⟨rfl, rfl⟩
/-- A result's text gives the result. -/
theorem par_write {a b r d t : Int} (hc : conB a b r d = true) (hres : isRes a b r d t = true) : pC (writeK a b r d t) = (a, b, r, d) ∧ pT (writeK a b r d t) = t ∧ pE (writeK a b r d t) = 0 := by
  obtain ⟨hr, t0, t1, tz⟩ := isRes_iff.1 hres
  cases h0 : a == 0
  · obtain ⟨ha, _⟩ := (right_iff hc h0).1 hr
    obtain ⟨v, hv, hv32⟩ := tailW_form (m := t - (6 + a)) (by omega) (by omega)
    have hW : writeK a b r d t = text a b r d ++ 32 :: v := by unfold writeK; rw [hres, h0, ← hv]; rfl
    have hL : lastB (writeK a b r d t) = (text a b r d).length := by rw [hW]; exact lastB_at _ _ hv32
    have hu : uOf (writeK a b r d t) = text a b r d := by unfold uOf upTo; rw [hL, hW]; simp
    obtain ⟨e1, e2⟩ := rC_text hc hr
    have hf : fT (writeK a b r d t) a b r d 14 0 = some t := by
      cases hx : fT (writeK a b r d t) a b r d 14 0 with
      | none => exact (fT_none hx t t0 (by omega) (by unfold writeE; rw [hres]; rfl) rfl).elim
      | some t' =>
        have hh := fT_some hx
        have hres' := writeE_zero hh.2.2.1
        have e : text a b r d ++ tailW (t' - (6 + a)) = text a b r d ++ tailW (t - (6 + a)) := by
          have h1 : writeK a b r d t' = text a b r d ++ tailW (t' - (6 + a)) := by unfold writeK; rw [hres', h0]; rfl
          have h2 : writeK a b r d t = text a b r d ++ tailW (t - (6 + a)) := by unfold writeK; rw [hres, h0]; rfl
          rw [← h1, ← h2]; exact hh.2.2.2
        have := tailW_inj (by omega) (by omega) (by omega) (by omega) (List.append_cancel_left e)
        congr 1; omega
    have hg : pGood (writeK a b r d t) = true := by
      unfold pGood okP okT
      rw [hu, e1, e2, hL]
      simp only
      rw [hf, leI_iff.2 (by omega)]; rfl
    unfold pC pT pE tT
    rw [hg, hu, e1]
    simp only
    rw [hf]
    exact ⟨rfl, rfl, rfl⟩
  · obtain rfl : a = 0 := by simpa using h0
    obtain ⟨rfl, rfl, rfl⟩ := right_zero.1 hr
    have ht : t = 0 := tz rfl
    subst ht
    exact ⟨rfl, rfl, rfl⟩
theorem bP_yes (s : List UInt8) (hs : s.length ≤ 140737488355328) : bP s = yes := by
  unfold bP
  rw [show Nat.ble s.length 140737488355328 = true from Nat.ble_eq_true_of_le hs, cond_true]
  cases hp : pE s == 0
  · rfl
  · rw [cond_true]
    cases hg : pGood s
    · have hpass : s = [112, 97, 115, 115] := by
        unfold pE at hp
        rw [hg] at hp
        cases h : s == [112, 97, 115, 115]
        · rw [h] at hp; cases hp
        · exact beq_iff_eq.1 h
      unfold pC pT
      rw [hg, hpass]
      rfl
    · unfold pC pT
      rw [hg]
      simp only [cond_true]
      have hok : okT s (rC (uOf s)).1 (rC (uOf s)).2.1 (rC (uOf s)).2.2.1 (rC (uOf s)).2.2.2 = true := by
        unfold pGood okP at hg
        simp only [Bool.and_eq_true] at hg
        exact hg.2.2
      rw [rC_con, cond_true]
      unfold okT at hok
      unfold tT
      cases hx : fT s (rC (uOf s)).1 (rC (uOf s)).2.1 (rC (uOf s)).2.2.1 (rC (uOf s)).2.2.2 14 0 with
      | none => rw [hx] at hok; cases hok
      | some t' =>
        have hh := fT_some hx
        simp only [Option.getD_some]
        rw [hh.2.2.2, hh.2.2.1]
        simp
theorem bS_yes (s : List UInt8) (hs : s.length ≤ 140737488355328) : bS s = yes := by
  unfold bS
  cases he : rE s == 0
  · exact bP_yes s hs
  · have he := beq_iff_eq.1 he
    obtain ⟨h1, h2⟩ := rE_zero he
    have hr := List.all_eq_true.1 domR_right _ h2
    rw [cond_true, rC_con, cond_true, h1, show textE (rC s).1 (rC s).2.1 (rC s).2.2.1 (rC s).2.2.2 = 0 by unfold textE; rw [hr]; rfl, bP_yes s hs]
    simp
theorem bTail_yes {a b r d t : Int} (_hc : conB a b r d = true) (hres : isRes a b r d t = true) (s : List UInt8) (hs : s.length ≤ 140737488355328) : bTail (writeK a b r d t) (text a b r d) s = yes := by
  have hW : ∃ w, writeK a b r d t = text a b r d ++ w := by
    unfold writeK
    rw [hres, cond_true]
    cases a == 0
    · exact ⟨_, rfl⟩
    · exact ⟨[], by simp⟩
  obtain ⟨w, hw⟩ := hW
  unfold bTail
  rw [hw, bS_yes s hs]
  have hl : ((text a b r d ++ w).length : Int) = (text a b r d).length + (w.length : Int) := by simp
  rw [decide_eq_false (by omega), leI_iff.2 (by omega : (0 : Int) ≤ (text a b r d).length), leI_iff.2 (by omega : ((text a b r d).length : Int) ≤ (text a b r d ++ w).length)]
  simp
/-- **P17.4, P17.5**: ScoreBack is true. -/
theorem back_run (m n : Int) (s : List UInt8) (hm : u32B m = true) (hn : u32B n = true) (hs : s.length ≤ 140737488355328) : (calls C8 60 9 [.int .u32 m, .int .u32 n, .str s]).run = some (.bool true) := by
  rw [t9, hm, hn, cond_true, cond_true]
  have key : ∀ n : Int, u32B n = true → conB (mA n) (mB n) (mR n) (mD n) = true ∧ isRes (mA n) (mB n) (mR n) (mD n) (mT n) = true := by
    intro n hn
    rcases made_or n hn with ⟨h1, h2, h3, h4, h5⟩ | hp
    · rw [h1, h2, h3, h4, h5]; exact ⟨rfl, rfl⟩
    · exact ⟨hp.con, hp.res⟩
  obtain ⟨c1, r1⟩ := key m hm
  obtain ⟨c2, r2⟩ := key n hn
  generalize mA m = a at *
  generalize mB m = b at *
  generalize mR m = r at *
  generalize mD m = d at *
  generalize mT m = t at *
  generalize mA n = a' at *
  generalize mB n = b' at *
  generalize mR n = r' at *
  generalize mD n = d' at *
  generalize mT n = t' at *
  obtain ⟨p1, p2, p3⟩ := par_write c1 r1
  obtain ⟨p1', p2', p3'⟩ := par_write c2 r2
  have hr := (isRes_iff.1 r1).1
  obtain ⟨q1, q2⟩ := rC_text c1 hr
  have wl : (writeK a b r d t).length ≤ 100 := by
    have h1 := text_len a b r d
    have h2 := num2_len (t - (6 + a)).toNat
    have h3 := num2_len (-(t - (6 + a))).toNat
    unfold writeK tailW
    cases isRes a b r d t <;> cases a == 0 <;> cases t - (6 + a) == 0 <;> cases decide (t - (6 + a) > 0) <;> simp <;> omega
  have we : ∀ a b r d t, isRes a b r d t = true → writeE a b r d t = 0 := fun a b r d t h => by unfold writeE; rw [h]; rfl
  unfold bTree
  rw [c1, c2, show Nat.ble (writeK a b r d t).length 140737488355328 = true from Nat.ble_eq_true_of_le (by omega), we _ _ _ _ _ r1, we _ _ _ _ _ r2, p3, show textE a b r d = 0 by unfold textE; rw [hr]; rfl, q2, p1, p2, q1, bTail_yes c1 r1 s hs]
  have hsame : sameC (a, b, r, d) a b r d = true := by unfold sameC; simp
  rw [hsame]
  have hT : ((0 : Int) != 0) = false := rfl
  simp only [cond_true, hT, cond_false, Bool.not_true, bne_self_eq_false]
  cases he : writeK a b r d t == writeK a' b' r' d' t'
  · cases hc : a == a' && (b == b' && (r == r' && (d == d' && true)))
    · rfl
    · simp only [Bool.and_eq_true, beq_iff_eq, and_true] at hc
      obtain ⟨rfl, rfl, rfl, rfl⟩ := hc
      cases ht : t == t'
      · rfl
      · have := beq_iff_eq.1 ht
        subst this
        simp at he
  · have he := beq_iff_eq.1 he
    rw [he] at p1 p2
    have e1 := p1.symm.trans p1'
    have e2 := p2.symm.trans p2'
    simp only [Prod.mk.injEq] at e1
    obtain ⟨rfl, rfl, rfl, rfl⟩ := e1
    subst e2
    simp [yes]
end Go.Proofs.YtfkpbchdapccmaaDoor
