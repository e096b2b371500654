/- Evaluator: soundness, part 14: regions that draw their order. -/
import Derived.Test.YtfkpbchdapccmaaDoorEvP
import Derived.Still
namespace Go.Ev

/-! ### A frame as what it says of each slot -/
def AF := Tmp → AV
def AF.put (φ : AF) (d : Option Tmp) (v : AV) : AF := fun t => if d = some t then v else φ t

theorem look_putE (e : Fr) (d : Option Tmp) (v : AV) : (look (putE e d v) : AF) = AF.put (look e) d v := funext fun t => look_put e d v t

theorem AF.put_comm (φ : AF) {x y : Option Tmp} (v u : AV) (h : ∀ d, x = some d → y ≠ some d) : (φ.put x v).put y u = (φ.put y u).put x v := by
  funext t
  simp only [AF.put]
  by_cases h1 : y = some t
  · by_cases h2 : x = some t
    · exact absurd h1 (h t h2)
    · simp [h1, h2]
  · simp [h1]

/-- Whether an operation is wanted, by what the frame says. -/
def gst (ops : Array Oper) (o : Oper) (φ : AF) : Option Bool :=
  match o.guard with
  | none => some true
  | some (j, want) => match (ops[j]?).bind (·.dst) with
    | none => none
    | some s => match φ s with
      | .bool b => some (b == want)
      | .tup [] => some false
      | _ => none

theorem fpOf_congr {C : Ctx} {e e' : Fr} {slot : Nat} {o : Oper} (h : ∀ x ∈ o.op.operands, opnd C e x = opnd C e' x) : fpOf C e slot o = fpOf C e' slot o := by
  obtain ⟨dst, op, type, pos, after, guard⟩ := o
  unfold fpOf
  cases op <;> simp only [Op.operands] at h <;> try rfl
  case load t x => simp only [h x (by simp)]
  case store t a x => simp only [h a (by simp)]
  case convert s d x => simp only [h x (by simp)]
  case slice t x l hi m => simp only [h x (by simp)]
  case call c =>
    have ha : opnds C e c.args = opnds C e' c.args := opnds_congr fun x hx => h x (by simp [Call.operands, hx])
    simp only [ha]

theorem evOpX_congr {C : Ctx} {r : EvT} {e e' : Fr} {H : Heap} {slot : Nat} {o : Oper} (h : ∀ x ∈ o.op.operands, opnd C e x = opnd C e' x) : evOpX C r e H slot o = evOpX C r e' H slot o := by
  unfold evOpX
  rw [evOp_congr h]

/-- What an operation yields. -/
def AY (C : Ctx) (r : EvT) (n0 : Nat) (ops : Array Oper) (F : List FP) (i : Nat) (o : Oper) (v : AV) (H' : Heap) (φ : AF) (H : Heap) : Prop :=
  (gst ops o φ = some true ∧ ∃ e : Fr, (look e : AF) = φ ∧ F[i]? = some (fpOf C e (n0 + i) o) ∧ (evOpX C r e H (n0 + i) o).run = some (v, H')) ∨ (gst ops o φ = some false ∧ v = .tup [] ∧ H' = H)

def opY (C : Ctx) (r : EvT) (n0 : Nat) (ops : Array Oper) (F : List FP) (i : Nat) (K : AF → Heap → Prop) (φ : AF) (H : Heap) : Prop :=
  match ops[i]? with
  | none => K φ H
  | some o => ∃ v H', AY C r n0 ops F i o v H' φ H ∧ K (φ.put o.dst v) H'

def anyY (C : Ctx) (r : EvT) (n0 : Nat) (ops : Array Oper) (F : List FP) (Q : AF → Heap → Prop) : Nat → Array Bool → AF → Heap → Prop
  | 0, listed, φ, H => Region.ready .any ops listed = [] ∧ Q φ H
  | fuel + 1, listed, φ, H =>
    (Region.ready .any ops listed = [] → Q φ H) ∧
    ∀ i ∈ Region.ready .any ops listed, opY C r n0 ops F i (anyY C r n0 ops F Q fuel (listed.setIfInBounds i true)) φ H

theorem fpsB_spec {ops : Array Oper} {F : List FP} (h : fpsB ops F = true) {i j : Nat} {oi oj : Oper} (hi : ops[i]? = some oi) (hj : ops[j]? = some oj) (hne : i ≠ j) (h1 : ∀ e ∈ oj.after, Region.binds .any e = true → e.on ≠ i) (h2 : ∀ e ∈ oi.after, Region.binds .any e = true → e.on ≠ j) :
    ∃ a b, F[i]? = some a ∧ F[j]? = some b ∧ clash a b = false := by
  have no : ∀ {o : Oper} {k : Nat}, (∀ e ∈ o.after, Region.binds .any e = true → e.on ≠ k) → onEdge o k = false := fun {o k} h => by
    cases hb : onEdge o k
    · rfl
    · obtain ⟨e, he, hb'⟩ := Array.any_eq_true'.1 hb
      simp only [Bool.and_eq_true, beq_iff_eq] at hb'
      exact absurd hb'.2 (h e he hb'.1)
  simp only [fpsB, List.all_eq_true, List.mem_range] at h
  have := h i (Array.getElem?_eq_some_iff.1 hi).1 j (Array.getElem?_eq_some_iff.1 hj).1
  simp only [hi, hj] at this
  cases ha : F[i]? with
  | none => simp [ha] at this
  | some a =>
    cases hb : F[j]? with
    | none => simp [ha, hb] at this
    | some b =>
      simp only [ha, hb, no h1, no h2, Bool.or_false, Bool.or_eq_true, Nat.beq_eq, hne, false_or, Bool.not_eq_true'] at this
      exact ⟨a, b, rfl, rfl, this⟩

theorem meets_no {a b : List Nat} (h : meets a b = false) {x : Nat} (ha : x ∈ a) : x ∉ b := by
  intro hb
  have : meets a b = true := List.any_eq_true.2 ⟨x, ha, by simpa using hb⟩
  rw [h] at this; cases this

theorem upd_other {u : Option (Nat × Blk)} {H : Heap} {id : Nat} (h : ∀ j b, u = some (j, b) → j ≠ id) : (upd u H)[id]? = H[id]? := by
  cases u with
  | none => rfl
  | some p => simp [upd, List.getElem?_set_ne (h p.1 p.2 rfl)]

theorem upd_comm {u u' : Option (Nat × Blk)} (H : Heap) (h : ∀ j b j' b', u = some (j, b) → u' = some (j', b') → j ≠ j') : upd u (upd u' H) = upd u' (upd u H) := by
  cases u with
  | none => rfl
  | some p =>
    cases u' with
    | none => rfl
    | some p' => exact List.set_comm _ _ (fun e => h p.1 p.2 p'.1 p'.2 rfl rfl e.symm)

section
variable {C : Ctx} {r : EvT} {n0 : Nat} {ops : Array Oper} {F : List FP}

theorem opY_mono {i : Nat} {φ : AF} {H : Heap} {K K' : AF → Heap → Prop} (h : ∀ φ H, K φ H → K' φ H) (hh : opY C r n0 ops F i K φ H) : opY C r n0 ops F i K' φ H := by
  unfold opY at *
  split
  · exact h _ _ (by simpa [*] using hh)
  · rename_i o ho
    simp only [ho] at hh
    obtain ⟨v, H', h1, h2⟩ := hh
    exact ⟨v, H', h1, h _ _ h2⟩

theorem gst_put {o : Oper} {φ : AF} {d : Option Tmp} {u : AV} (h : ∀ t, d = some t → t ∉ o.looksAt ops) : gst ops o (φ.put d u) = gst ops o φ := by
  unfold gst
  split
  · rfl
  · rename_i j want hg
    cases hs : (ops[j]?).bind (·.dst) with
    | none => rfl
    | some s =>
      have : d ≠ some s := fun e => h s e (by simp [Oper.looksAt, hg, hs])
      simp only [AF.put, this, if_false]

theorem opnd_put {o : Oper} {e e' : Fr} {d : Option Tmp} (h : ∀ t, d = some t → t ∉ o.looksAt ops) (he : ∀ t, d ≠ some t → look e t = look e' t) : ∀ x ∈ o.op.operands, opnd C e x = opnd C e' x := by
  intro x hx
  cases x with
  | tmp t =>
    refine he t fun hd => h t hd ?_
    refine List.mem_append.2 (.inl (List.mem_filterMap.2 ⟨.tmp t, by simpa using hx, rfl⟩))
  | _ => rfl

theorem look_same {e e' : Fr} (h : (look e : AF) = look e') : ∀ x, opnd C e x = opnd C e' x := by
  intro x
  have : ∀ t, look e t = look e' t := fun t => by rw [show look e = look e' from h]
  cases x with
  | tmp t => exact this t
  | _ => rfl

theorem AY_put {i : Nat} {o : Oper} {φ : AF} {H H' : Heap} {d : Option Tmp} {u v : AV} (h : ∀ t, d = some t → t ∉ o.looksAt ops) : AY C r n0 ops F i o v H' (φ.put d u) H ↔ AY C r n0 ops F i o v H' φ H := by
  unfold AY
  rw [gst_put h]
  refine or_congr (and_congr_right fun _ => ⟨fun ⟨e, he, hf, h1⟩ => ?_, fun ⟨e, he, hf, h1⟩ => ?_⟩) Iff.rfl
  · cases d with
    | none => exact ⟨e, by rw [he]; funext t; simp [AF.put], hf, h1⟩
    | some s =>
      have hc : ∀ x ∈ o.op.operands, opnd C (putE e (some s) (φ s)) x = opnd C e x := opnd_put h fun t ht => by rw [look_put, if_neg ht]
      refine ⟨putE e (some s) (φ s), ?_, by rw [fpOf_congr hc]; exact hf, by rw [evOpX_congr hc]; exact h1⟩
      rw [look_putE, he]
      funext t
      simp only [AF.put, Option.some.injEq]
      split
      · rename_i e1; rw [e1]
      · simp
  · have hc : ∀ x ∈ o.op.operands, opnd C (putE e d u) x = opnd C e x := opnd_put h fun t ht => by rw [look_put, if_neg ht]
    exact ⟨putE e d u, by rw [look_putE, he], by rw [fpOf_congr hc]; exact hf, by rw [evOpX_congr hc]; exact h1⟩

/-- Two operations that leave each other's blocks alone. -/
theorem AY_swap {i j : Nat} {oi oj : Oper} {φ : AF} {H H1 H2 : Heap} {u v : AV} (hh : ∃ a b, F[i]? = some a ∧ F[j]? = some b ∧ clash a b = false) (h1 : AY C r n0 ops F i oi v H1 φ H) (h2 : AY C r n0 ops F j oj u H2 φ H1) :
    ∃ H3, AY C r n0 ops F j oj u H3 φ H ∧ AY C r n0 ops F i oi v H2 φ H3 := by
  rcases h1 with ⟨g1, e1, k1, f1, r1⟩ | ⟨g1, rfl, rfl⟩
  · rcases h2 with ⟨g2, e2, k2, f2, r2⟩ | ⟨g2, rfl, rfl⟩
    · obtain ⟨a, b, ha, hb, hc⟩ := hh
      rw [ha] at f1; rw [hb] at f2
      obtain rfl := Option.some.inj f1
      obtain rfl := Option.some.inj f2
      simp only [clash, Bool.or_eq_false_iff] at hc
      obtain ⟨ui, e3, w1, fr1⟩ := evOpX_frame r1
      obtain ⟨uj, e4, w2, fr2⟩ := evOpX_frame r2
      subst e3 e4
      refine ⟨upd uj H, .inl ⟨g2, e2, k2, hb, fr2 H fun id hid => ?_⟩, .inl ⟨g1, e1, k1, ha, ?_⟩⟩
      · exact (upd_other fun x b hu e => meets_no hc.1 (w1 x b hu) (by rw [e]; exact hid)).symm
      · rw [upd_comm H fun x b x' b' h h' e => meets_no hc.1 (w1 x' b' h') (by rw [← e]; exact List.mem_append.2 (.inr (w2 x b h)))]
        refine fr1 _ fun id hid => upd_other fun x b hu e => ?_
        subst e
        rcases List.mem_append.1 hid with h | h
        · exact meets_no hc.2 (w2 x b hu) h
        · exact meets_no hc.1 h (List.mem_append.2 (.inr (w2 x b hu)))
    · exact ⟨H, .inr ⟨g2, rfl, rfl⟩, .inl ⟨g1, e1, k1, f1, r1⟩⟩
  · exact ⟨H2, h2, .inr ⟨g1, rfl, rfl⟩⟩

theorem opY_put {i j : Nat} {oi oj : Oper} {v : AV} (hj : ops[j]? = some oj) (hap : oi.apart ops oj = true) (hh : ∃ a b, F[i]? = some a ∧ F[j]? = some b ∧ clash a b = false) {K : AF → Heap → Prop} {φ : AF} {H H1 : Heap}
    (hy : AY C r n0 ops F i oi v H1 φ H) (h : opY C r n0 ops F j K (φ.put oi.dst v) H1) : opY C r n0 ops F j (fun φ' H' => ∃ H'', AY C r n0 ops F i oi v H'' φ' H' ∧ K (φ'.put oi.dst v) H'') φ H := by
  obtain ⟨h1, h2, h3⟩ := Oper.apart_spec hap
  unfold opY at *
  simp only [hj] at *
  obtain ⟨u, H2, hu, hn⟩ := h
  obtain ⟨H3, k1, k2⟩ := AY_swap hh hy ((AY_put h1).1 hu)
  exact ⟨u, H3, k1, H2, (AY_put h3).2 k2, by rw [← AF.put_comm φ v u h2]; exact hn⟩

theorem anyY_first (hB : fpsB ops F = true) {Q : AF → Heap → Prop} {i : Nat} {oi : Oper} {v : AV} (hi : ops[i]? = some oi) :
    ∀ (fuel : Nat) (listed : Array Bool) (φ : AF) (H H1 : Heap),
      (∀ j oj, ops[j]? = some oj → j ≠ i → listed.getD j true = false → (∀ e ∈ oj.after, Region.binds .any e = true → e.on ≠ i) → oi.apart ops oj = true) →
      i ∈ Region.ready .any ops listed → AY C r n0 ops F i oi v H1 φ H →
      anyY C r n0 ops F Q fuel (listed.setIfInBounds i true) (φ.put oi.dst v) H1 → anyY C r n0 ops F Q (fuel + 1) listed φ H := by
  intro fuel
  have here : ∀ {K : AF → Heap → Prop} {φ : AF} {H H1 : Heap}, AY C r n0 ops F i oi v H1 φ H → K (φ.put oi.dst v) H1 → opY C r n0 ops F i K φ H := fun hy hK => by
    unfold opY
    simp only [hi]
    exact ⟨v, _, hy, hK⟩
  induction fuel with
  | zero =>
    intro listed φ H H1 _ hr hy hA
    refine ⟨fun h => (by rw [h] at hr; cases hr), fun j hj => ?_⟩
    by_cases hji : j = i
    · subst hji; exact here hy hA
    · have := ready_mono hj hji
      rw [hA.1] at this
      cases this
  | succ fuel ih =>
    intro listed φ H H1 hfree hr hy hA
    refine ⟨fun h => (by rw [h] at hr; cases hr), fun j hj => ?_⟩
    by_cases hji : j = i
    · subst hji; exact here hy hA
    · have h1 := hA.2 j (ready_mono hj hji)
      -- what is ready waits for nothing that is not listed yet
      have waits : ∀ {a b : Nat} {oa : Oper}, a ∈ Region.ready .any ops listed → b ∈ Region.ready .any ops listed → ops[a]? = some oa → ∀ e ∈ oa.after, Region.binds .any e = true → e.on ≠ b := fun {a b oa} ha hb hoa e he hbind heq => by
        obtain ⟨_, oa', hoa', hall⟩ := mem_ready.1 ha
        obtain rfl := Option.some.inj (hoa.symm.trans hoa')
        have h1 := hall e he hbind
        have h0 := (mem_ready.1 hb).1
        rw [heq] at h1
        rcases Nat.lt_or_ge b listed.size with h' | h'
        · simp [h'] at h0 h1; rw [h0] at h1; cases h1
        · simp [Array.getElem?_eq_none h'] at h1
      obtain ⟨hjun, oj, hoj, hall⟩ := mem_ready.1 hj
      have hnot := waits hj hr hoj
      have h2 := opY_put hoj (hfree j oj hoj hji hjun hnot) (fpsB_spec hB hi hoj (Ne.symm hji) hnot (waits hr hj hi)) hy h1
      have hfree' : ∀ k ok, ops[k]? = some ok → k ≠ i → (listed.setIfInBounds j true).getD k true = false →
          (∀ e ∈ ok.after, Region.binds .any e = true → e.on ≠ i) → oi.apart ops ok = true := fun k ok hk hki hun hno => by
        refine hfree k ok hk hki ?_ hno
        by_cases hjk : j = k
        · subst hjk; exact hjun
        · rw [getD_set_ne true hjk] at hun; exact hun
      refine opY_mono (fun φ' H' ⟨H'', h3, h4⟩ => ih (listed.setIfInBounds j true) φ' H' H'' hfree' (ready_mono hr (Ne.symm hji)) h3 ?_) h2
      rw [Array.setIfInBounds_comm _ _ hji]
      exact h4

theorem look_guard {e : Fr} {s : Tmp} {b : Bool} (h : look e s = .bool b) : (look ((s, .bool b) :: e) : AF) = look e := by
  funext t
  simp only [look]
  cases hb : Nat.beq s t
  · rfl
  · have := Nat.eq_of_beq_eq_true hb
    subst this
    exact h.symm

/-- The walk in the order of the text. -/
theorem anyY_lex (hB0 : fpsB ops F = true) :
    ∀ (l : List Oper) (k : Nat) (listed : Array Bool) (e : Fr) (H : Heap) (e' : Fr) (H' : Heap) (G : List FP), (∀ j, l[j]? = ops[k + j]?) → ops.size = k + l.length → F.drop k = G →
    Region.lexFrom .any ops l.length k listed = true → (evOpsD C r n0 ops l e H).run = some (e', H', G) → anyY C r n0 ops F (fun φ K => φ = (look e' : AF) ∧ K = H') l.length listed (look e) H
  | [], _, _, e, H, e', H', G, _, _, _, hB, h => by
    cases Option.some.inj h
    exact ⟨by simpa [Region.lexFrom] using hB, rfl, rfl⟩
  | o :: l, k, listed, e, H, e', H', G, hl, hsz, hG, hB, h => by
    have h0 : ops[k]? = some o := by simpa using (hl 0).symm
    simp only [List.length_cons, Region.lexFrom, Bool.and_eq_true] at hB
    obtain ⟨⟨hr, hf⟩, hB'⟩ := hB
    have hl' : ∀ j, l[j]? = ops[k + 1 + j]? := fun j => by have := hl (j + 1); simpa [Nat.add_assoc, Nat.add_comm 1 j] using this
    have hslot : n0 + (ops.size - (l.length + 1)) = n0 + k := by simp only [List.length_cons] at hsz; omega
    have hsz' : ops.size = k + 1 + l.length := by simp only [List.length_cons] at hsz; omega
    have fin : ∀ {e1 : Fr} {v : AV} {H1 : Heap} {a : FP}, (look e1 : AF) = look e → (F[k]? = some a → AY C r n0 ops F k o v H1 (look e) H) → (withFP a (evOpsD C r n0 ops l (putE e1 o.dst v) H1)).run = some (e', H', G) →
        anyY C r n0 ops F (fun φ K => φ = (look e' : AF) ∧ K = H') (l.length + 1) listed (look e) H := fun {e1 v H1 a} he hy h1 => by
      obtain ⟨⟨e2, H2, G2⟩, h2, h3⟩ := T.of_bind h1
      have h3 := Option.some.inj h3
      simp only [Prod.mk.injEq] at h3
      obtain ⟨rfl, rfl, hG'⟩ := h3
      rw [← hG'] at hG
      have hk : F[k]? = some a := by
        have := congrArg (fun l => l[0]?) hG
        simpa using this
      have hd : F.drop (k + 1) = G2 := by
        have := congrArg (fun l => l.drop 1) hG
        simpa [List.drop_drop, Nat.add_comm] using this
      have := anyY_lex hB0 l (k + 1) _ _ _ _ _ _ hl' hsz' hd hB' h2
      refine anyY_first hB0 h0 l.length listed _ _ _ (Region.free_spec h0 hf) (by simpa using hr) (hy hk) ?_
      rw [← he, ← look_putE]
      exact this
    have run : ∀ {e1 : Fr}, (look e1 : AF) = look e → gst ops o (look e) = some true → ((evOpX C r e1 H (n0 + (ops.size - (l.length + 1))) o).bind fun p => withFP (fpOf C e1 (n0 + (ops.size - (l.length + 1))) o) (evOpsD C r n0 ops l (putE e1 o.dst p.1) p.2)).run = some (e', H', G) →
        anyY C r n0 ops F (fun φ K => φ = (look e' : AF) ∧ K = H') (l.length + 1) listed (look e) H := fun {e1} he hg h1 => by
      rw [hslot] at h1
      obtain ⟨⟨v, H1⟩, h2, h3⟩ := T.of_bind h1
      exact fin he (fun hk => .inl ⟨hg, e1, he, hk, h2⟩) h3
    simp only [evOpsD] at h
    split at h
    · rename_i hg
      exact run rfl (by simp [gst, hg]) h
    · rename_i j want hg
      split at h
      · simp [T.run] at h
      · rename_i s hsd
        split at h
        · rename_i b hb
          have hw : gst ops o (look e) = some (b == true) := by simp [gst, hg, hsd, hb]
          rcases T.of_br h with ⟨h1, h2⟩ | ⟨h1, h2⟩
          · subst h1
            exact run (look_guard hb) (by simpa using hw) h2
          · subst h1
            exact fin (look_guard hb) (fun _ => .inr ⟨by simpa using hw, rfl, rfl⟩) h2
        · rename_i b hb
          have hw : gst ops o (look e) = some (b == false) := by simp [gst, hg, hsd, hb]
          rcases T.of_br h with ⟨h1, h2⟩ | ⟨h1, h2⟩
          · subst h1
            exact fin (look_guard hb) (fun _ => .inr ⟨by simpa using hw, rfl, rfl⟩) h2
          · subst h1
            exact run (look_guard hb) (by simpa using hw) h2
        · rename_i hb
          exact fin rfl (fun _ => .inr ⟨by simp [gst, hg, hsd, hb], rfl, rfl⟩) h
        · simp [T.run] at h
end

/-! ### A block born at an id that was kept for it -/
structure EWk (E E' : Env) : Prop where
  ρ : ∀ (id : Nat) (x : Nat × Nat), E.at id = some x → E'.at id = some x
  G : GLe E.G E'.G
  len : E.ρ.length ≤ E'.ρ.length
theorem ELe.wk {E E' : Env} (h : ELe E E') : EWk E E' := ⟨h.ρ, h.G, h.len⟩
theorem EWk.refl (E : Env) : EWk E E := (ELe.refl E).wk
theorem EWk.trans {a b c : Env} (h : EWk a b) (k : EWk b c) : EWk a c := ⟨fun i x e => k.ρ _ _ (h.ρ i x e), fun b o c e => k.G _ _ _ (h.G b o c e), Nat.le_trans h.len k.len⟩

mutual
theorem R.monoW {E E' : Env} (h : EWk E E') {v : AV} {c : Value} (r : R E v c) : R E' v c :=
  match r with
  | .pers p => .pers (p.mono h.G)
  | .agg l => .agg (RL.monoW h l)
  | .tup l => .tup (RL.monoW h l)
  | .own e => .own (h.ρ _ _ e)
  | .sl e a b c => .sl (h.ρ _ _ e) a b c
  | .fn l l' => .fn (RL.monoW h l) (RL.monoW h l')
  | .ifc v => .ifc (R.monoW h v)
theorem RL.monoW {E E' : Env} (h : EWk E E') {v : List AV} {c : List Value} (r : RL E v c) : RL E' v c :=
  match r with
  | .nil => .nil
  | .cons a l => .cons (R.monoW h a) (RL.monoW h l)
end

def Env.born (E : Env) (slot b m : Nat) : Env := { E with ρ := E.ρ.set slot (some (b, m)) }

section
variable {C : Ctx} {E : Env} {H : Heap} {w : World}

theorem born_other {slot b m id : Nat} (h : id ≠ slot) : (E.born slot b m).at id = E.at id := by
  unfold Env.at Env.born
  simp only
  rw [List.getElem?_set_ne (Ne.symm h)]
theorem born_self {slot b m : Nat} (h : slot < E.ρ.length) : (E.born slot b m).at slot = some (b, m) := by
  rw [Env.at_get]
  simp [Env.born, h]
theorem born_wk {slot b m : Nat} (h : E.at slot = none) : EWk E (E.born slot b m) := by
  refine ⟨fun id x e => ?_, fun _ _ _ h => h, by simp [Env.born]⟩
  have : id ≠ slot := fun e' => by subst e'; rw [h] at e; cases e
  rw [born_other this]; exact e

theorem inv_born (hI : Inv C E H w) {slot : Nat} {blk : Blk} {cs : List Value} (hs : H[slot]? = some none) (hu : E.at slot = none) (hr : RL E blk.cells cs) :
    Inv C (E.born slot w.heap.size cs.length) (H.set slot (some blk)) (w.alloc (.cells cs.toArray blk.ty)) ∧
    Stp E H w (E.born slot w.heap.size cs.length) (H.set slot (some blk)) (w.alloc (.cells cs.toArray blk.ty)) := by
  have hwk := born_wk (b := w.heap.size) (m := cs.length) hu
  have hlt : slot < H.length := by
    rcases Nat.lt_or_ge slot H.length with h | h
    · exact h
    · rw [List.getElem?_eq_none h] at hs; cases hs
  have hself := born_self (b := w.heap.size) (m := cs.length) (show slot < E.ρ.length by rw [hI.len]; exact hlt)
  have hget : ∀ {id : Nat} {bl : Blk}, (H.set slot (some blk))[id]? = some (some bl) → (id ≠ slot ∧ H[id]? = some (some bl)) ∨ (id = slot ∧ bl = blk) := fun {id bl} h => by
    by_cases e : slot = id
    · subst e
      rw [List.getElem?_set_self hlt] at h
      cases h
      exact .inr ⟨rfl, rfl⟩
    · rw [List.getElem?_set_ne e] at h
      exact .inl ⟨Ne.symm e, h⟩
  have hown : ∀ {b}, OwnB (E.born slot w.heap.size cs.length) (H.set slot (some blk)) b → OwnB E H b ∨ b = w.heap.size := fun {b} ⟨id, bl, m, h1, h2⟩ => by
    rcases hget h1 with ⟨hne, h3⟩ | ⟨rfl, rfl⟩
    · rw [born_other hne] at h2; exact .inl ⟨id, bl, m, h3, h2⟩
    · rw [hself] at h2; cases h2; exact .inr rfl
  refine ⟨⟨by simp [Env.born, hI.len], fun b o c hg => ?_, fun b o c hg ho => ?_, fun id bl h => ?_, fun id id' bl bl' b m m' h1 h2 h3 h4 => ?_, hI.glob⟩, ⟨fun _ _ _ h => h, fun _ _ _ h => .inl h, fun b ho => ?_, fun b hb _ => heap_alloc_lt _ hb, by rw [size_alloc]; omega, rfl, rfl, rfl⟩⟩
  · have h1 := hI.g _ _ _ hg
    rw [cell_alloc_lt _ (block_of_cell h1)]; exact h1
  · rcases hown ho with h | rfl
    · exact hI.sep _ _ _ hg h
    · have := block_of_cell (hI.g _ _ _ hg); omega
  · rcases hget h with ⟨hne, h3⟩ | ⟨rfl, rfl⟩
    · obtain ⟨b, m, cs', rest, e1, e2, e3, e4⟩ := hI.blk id bl h3
      exact ⟨b, m, cs', rest, by rw [born_other hne]; exact e1, by rw [heap_alloc_lt _ (lt_of_get e2)]; exact e2, e3, e4.monoW hwk⟩
    · exact ⟨w.heap.size, cs.length, cs, [], hself, by simpa using heap_alloc_eq (w := w) _, by simp, hr.monoW hwk⟩
  · rcases hget h1 with ⟨n1, g1⟩ | ⟨rfl, rfl⟩
    · rcases hget h2 with ⟨n2, g2⟩ | ⟨rfl, rfl⟩
      · rw [born_other n1] at h3; rw [born_other n2] at h4
        exact hI.inj _ _ _ _ _ _ _ g1 g2 h3 h4
      · rw [born_other n1] at h3; rw [hself] at h4; cases h4
        have := hI.own_lt ⟨id, bl, m, g1, h3⟩; omega
    · rcases hget h2 with ⟨n2, g2⟩ | ⟨rfl, rfl⟩
      · rw [born_other n2] at h4; rw [hself] at h3; cases h3
        have := hI.own_lt ⟨id', bl', m', g2, h4⟩; omega
      · rfl
  · rcases hown ho with h | h
    · exact .inl h
    · exact .inr (by omega)
end

theorem upd_length (u : Option (Nat × Blk)) (H : Heap) : (upd u H).length = H.length := by
  cases u with
  | none => rfl
  | some p => simp [upd]

theorem evOpX_look {C : Ctx} {r : EvT} {e e' : Fr} {H : Heap} {slot : Nat} {o : Oper} (h : (look e : AF) = look e') : evOpX C r e H slot o = evOpX C r e' H slot o := by
  have : ∀ t, look e t = look e' t := fun t => by rw [show look e = look e' from h]
  refine evOpX_congr fun x _ => ?_
  cases x with
  | tmp t => exact this t
  | _ => rfl

/-- A new block at an id kept for it. -/
theorem alloc_slot {C : Ctx} {E : Env} {H : Heap} {w : World} (hT : TyOk C) (hI : Inv C E H w) {o : Oper} {el : TypeId} {z : List AV} {slot : Nat} {ρ : Operand → Value} (ho : o.op = .alloc el) (hz : (C.ty el).zero = some z) (hok : (C.ty el).ok = true)
    (hs : H[slot]? = some none) (hu : E.at slot = none) :
    ∃ w' b m, (execOp ρ o).run C.P w = .ok (.value (.pointer (some ⟨b, 0, none⟩))) w' ∧ Inv C (E.born slot b m) (H.set slot (some ⟨el, z⟩)) w' ∧ Stp E H w (E.born slot b m) (H.set slot (some ⟨el, z⟩)) w' ∧ (E.born slot b m).at slot = some (b, m) := by
  obtain ⟨i, hi, _, _, _, hzz⟩ := run_info hT hok
  obtain ⟨zv, hzv, rfl⟩ := hzz z hz
  have hc : RL E (ofV zv).cells zv.cells.toList := (RPL_ofV_cells E.G zv).rl
  obtain ⟨h1, h2⟩ := inv_born (blk := ⟨el, (ofV zv).cells⟩) hI hs hu hc
  have hlt : slot < E.ρ.length := by
    rw [hI.len]
    rcases Nat.lt_or_ge slot H.length with h | h
    · exact h
    · rw [List.getElem?_eq_none h] at hs; cases hs
  refine ⟨w.alloc (.cells zv.cells el), w.heap.size, zv.cells.toList.length, ?_, by simpa using h1, by simpa using h2, born_self hlt⟩
  unfold execOp
  simp only [ho]
  obtain ⟨c, w', E', k1, k2⟩ := alloc_ok (C := C) hT hI hz hok
  simp [Instr.alloc, zeroValue, hi, hzv, newVar, newRow]

/-- It is a wpAny, from every world in which the frame stands. -/
theorem wpAny_of_anyY {C : Ctx} {r : EvT} {n0 : Nat} {ops : Array Oper} {F : List FP} (hT : TyOk C) (hQ : EqOk C) (hr : SoundCall C r) (hs : SumOk C) {Q : Exit → Act → World → Prop} {e' : Fr} {H' : Heap} :
    ∀ (fuel : Nat) (listed : Array Bool) (φ : AF) (H : Heap) (e : Fr) (E : Env) (a : Act) (w : World), (look e : AF) = φ → Inv C E H w → FrR E e a → (∀ o ∈ ops.toList, ∀ d, o.dst = some d → d < a.tmps.size) →
      (∀ i o, ops[i]? = some o → listed.getD i true = false → n0 + i < H.length → isAlloc o = true → E.at (n0 + i) = none) →
      (∀ E' a' w', EWk E E' → (∀ id, id < n0 → id < E.ρ.length → E.at id = none → E'.at id = none) → Stp E H w E' H' w' → Inv C E' H' w' → FrR E' e' a' → a'.defers = a.defers → a'.tmps.size = a.tmps.size → Q .normal a' w') →
      anyY C r n0 ops F (fun φ K => φ = (look e' : AF) ∧ K = H') fuel listed φ H → wpAny C.P .any ops Q fuel listed a w := by
  have fin : ∀ {φ : AF} {H : Heap} {e : Fr} {E : Env} {a : Act} {w : World}, (look e : AF) = φ → Inv C E H w → FrR E e a →
      (∀ E' a' w', EWk E E' → (∀ id, id < n0 → id < E.ρ.length → E.at id = none → E'.at id = none) → Stp E H w E' H' w' → Inv C E' H' w' → FrR E' e' a' → a'.defers = a.defers → a'.tmps.size = a.tmps.size → Q .normal a' w') → φ = (look e' : AF) ∧ H = H' → Q .normal a w := by
    intro φ H e E a w he hI hf hq ⟨hφ, hH⟩
    subst hH
    refine hq E a w (EWk.refl E) (fun _ _ _ h => h) (Stp.refl E H w) hI (fun t => ?_) rfl rfl
    have := hf t
    rw [show look e t = look e' t from by rw [show look e = look e' from he.trans hφ]] at this
    exact this
  intro fuel
  induction fuel with
  | zero => intro listed φ H e E a w he hI hf _ _ hq h; exact ⟨h.1, fin he hI hf hq h.2⟩
  | succ fuel ih =>
    intro listed φ H e E a w he hI hf hd hun hq h
    refine ⟨fun h0 => fin he hI hf hq (h.1 h0), fun i hi => ?_⟩
    have h1 := h.2 i hi
    have hisz : i < listed.size := by
      obtain ⟨hl, _⟩ := mem_ready.1 hi
      rcases Nat.lt_or_ge i listed.size with h' | h'
      · exact h'
      · simp [Array.getElem?_eq_none h'] at hl
    have hlist : ∀ {j : Nat}, (listed.setIfInBounds i true).getD j true = false → j ≠ i ∧ listed.getD j true = false := fun {j} hj => by
      by_cases e : i = j
      · subst e; simp [hisz] at hj
      · exact ⟨Ne.symm e, by rw [getD_set_ne true e] at hj; exact hj⟩
    unfold opY at h1
    unfold wpOp
    split
    · rename_i hn
      simp only [hn] at h1
      exact ih _ φ H e E a w he hI hf hd (fun j o hj hl hlt ha => hun j o hj (hlist hl).2 hlt ha) hq h1
    · rename_i o ho
      simp only [ho] at h1
      obtain ⟨v, H1, hy, hK⟩ := h1
      have hmem : o ∈ ops.toList := Array.mem_toList_iff.2 (Array.mem_of_getElem? ho)
      have go : ∀ {c : Value} {w' : World} {E' : Env}, H1.length = H.length → EWk E E' → (∀ id, id ≠ n0 + i → id < E.ρ.length → E.at id = none → E'.at id = none) → Stp E H w E' H1 w' → Inv C E' H1 w' → R E' v c → wpAny C.P .any ops Q fuel (listed.setIfInBounds i true) (a.put o.dst c) w' := by
        intro c w' E' gl g1 gu g2 g3 g4
        have hfm : FrR E' e a := fun t => (hf t).monoW g1
        refine ih _ _ H1 (putE e o.dst v) E' _ w' (by rw [look_putE, he]) g3 (hfm.put g4 (hd o hmem)) (fun o' ho' d hd' => by rw [put_size]; exact hd o' ho' d hd') (fun j oj hj hl hlt ha => ?_) (fun E'' a' w'' h4 hu5 h5 h6 h7 h8 h9 => ?_) hK
        · obtain ⟨hne, hl'⟩ := hlist hl
          exact gu _ (by omega) (by rw [hI.len]; omega) (hun j oj hj hl' (by omega) ha)
        · exact hq E'' a' w'' (g1.trans h4) (fun id hid hlt hn => hu5 id hid (Nat.lt_of_lt_of_le hlt g1.len) (gu id (by omega) hlt hn)) (g2.trans h5) h6 h7 (h8.trans (put_defers' _ _ _)) (h9.trans (put_size _ _ _))
      have hφ : ∀ t, φ t = look e t := fun t => by rw [← he]
      rcases hy with ⟨hg, e2, he2, _, hrun⟩ | ⟨hg, hv, hH1⟩
      · have hw : Region.wanted o (yielded ops a.tmps) = true := by
          unfold gst at hg
          split at hg
          · rename_i hgu; simp [Region.wanted, hgu]
          · rename_i j want hgu
            split at hg
            · cases hg
            · rename_i s hsd
              rw [hφ s] at hg
              split at hg
              · rename_i b hb
                rw [wanted_bool hgu hsd (hf.bool hb)]
                exact Option.some.inj hg
              · cases hg
              · cases hg
        rw [if_pos hw]
        rw [evOpX_look (he2.trans he.symm)] at hrun
        obtain ⟨u, hu1, _, _⟩ := evOpX_frame hrun
        have hlen1 : H1.length = H.length := by rw [hu1, upd_length]
        unfold evOpX at hrun
        split at hrun
        · rename_i el hop
          split at hrun
          · rename_i z hz hslot
            obtain ⟨hok, hrun⟩ := T.of_chk hrun
            cases Option.some.inj hrun
            have hlt : n0 + i < H.length := by
              rcases Nat.lt_or_ge (n0 + i) H.length with h | h
              · exact h
              · rw [List.getElem?_eq_none h] at hslot; cases hslot
            have hnone := hun i o ho (mem_ready.1 hi).1 hlt (by simp [isAlloc, hop])
            obtain ⟨w', b, m, k1, k2, k3, k4⟩ := alloc_slot (ρ := a.eval) hT hI hop hz hok hslot hnone
            refine .inl ?_
            unfold Oper.wp
            rw [k1]
            exact go hlen1 (born_wk hnone) (fun id hne _ hn => by rw [born_other hne]; exact hn) k3 k2 (.own k4)
          · simp [T.run] at hrun
        · refine .inl (upon_of_res (evOp_ok hT hQ hr hs hI hf hrun).1 fun c w' E' hg => ?_)
          exact go hlen1 hg.le.wk (fun id _ hlt hn => hg.le.un id hlt hn) hg.stp hg.inv hg.r
      · subst hv hH1
        have hw : Region.wanted o (yielded ops a.tmps) = false := by
          unfold gst at hg
          split at hg
          · cases hg
          · rename_i j want hgu
            split at hg
            · cases hg
            · rename_i s hsd
              rw [hφ s] at hg
              split at hg
              · rename_i b hb
                rw [wanted_bool hgu hsd (hf.bool hb)]
                exact Option.some.inj hg
              · rename_i hb
                exact wanted_bot hgu hsd (hf.bot hb)
              · cases hg
        rw [if_neg (by simp [hw])]
        exact go rfl (EWk.refl E) (fun _ _ _ h => h) (Stp.refl E _ w) hI (.tup (cs := []) .nil)

/-- Ids kept. -/
def Env.keep (E : Env) (n : Nat) : Env := { E with ρ := E.ρ ++ List.replicate n none }

theorem keep_old {E : Env} {n id : Nat} (h : id < E.ρ.length) : (E.keep n).at id = E.at id := by
  unfold Env.at Env.keep
  simp only
  rw [List.getElem?_append_left h]
theorem keep_new {E : Env} {n id : Nat} (h : E.ρ.length ≤ id) : (E.keep n).at id = none := by
  unfold Env.at Env.keep
  simp only
  rw [List.getElem?_append_right h, List.getElem?_replicate]
  split <;> rfl
theorem keep_le (E : Env) (n : Nat) : ELe E (E.keep n) :=
  ⟨fun id x h => by rw [keep_old (Env.at_lt h)]; exact h, fun _ _ _ h => h, by simp [Env.keep], fun id hi h => by rw [keep_old hi]; exact h⟩

theorem inv_keep {C : Ctx} {E : Env} {H : Heap} {w : World} (hI : Inv C E H w) (n : Nat) : Inv C (E.keep n) (H ++ List.replicate n none) w ∧ Stp E H w (E.keep n) (H ++ List.replicate n none) w := by
  have hle := keep_le E n
  have hget : ∀ {id : Nat} {bl : Blk}, (H ++ List.replicate n none)[id]? = some (some bl) → id < H.length ∧ H[id]? = some (some bl) := fun {id bl} h => by
    rcases Nat.lt_or_ge id H.length with h' | h'
    · rw [List.getElem?_append_left h'] at h; exact ⟨h', h⟩
    · rw [List.getElem?_append_right h', List.getElem?_replicate] at h
      split at h <;> cases h
  have hold : ∀ {id : Nat}, id < H.length → (E.keep n).at id = E.at id := fun h => keep_old (by rw [hI.len]; exact h)
  have hown : ∀ {b}, OwnB (E.keep n) (H ++ List.replicate n none) b → OwnB E H b := fun {b} ⟨id, bl, m, h1, h2⟩ => by
    obtain ⟨h3, h4⟩ := hget h1
    exact ⟨id, bl, m, h4, by rw [← hold h3]; exact h2⟩
  refine ⟨⟨by simp [Env.keep, hI.len], hI.g, fun b o c hg ho => hI.sep b o c hg (hown ho), fun id bl h => ?_, fun id id' bl bl' b m m' h1 h2 h3 h4 => ?_, hI.glob⟩, ⟨fun _ _ _ h => h, fun _ _ _ h => .inl h, fun b ho => .inl (hown ho), fun _ _ _ => rfl, Nat.le_refl _, rfl, rfl, rfl⟩⟩
  · obtain ⟨h3, h4⟩ := hget h
    obtain ⟨b, m, cs, rest, e1, e2, e3, e4⟩ := hI.blk id bl h4
    exact ⟨b, m, cs, rest, by rw [hold h3]; exact e1, e2, e3, e4.mono hle⟩
  · obtain ⟨g1, g2⟩ := hget h1
    obtain ⟨g3, g4⟩ := hget h2
    rw [hold g1] at h3; rw [hold g3] at h4
    exact hI.inj _ _ _ _ _ _ _ g2 g4 h3 h4

theorem inv_resv {C : Ctx} {E : Env} {H : Heap} {w : World} (hI : Inv C E H w) (ops : Array Oper) : ∃ E0, Inv C E0 (resv ops H) w ∧ Stp E H w E0 (resv ops H) w ∧ ELe E E0 ∧ ∀ id, H.length ≤ id → E0.at id = none := by
  unfold resv
  cases ops.any isAlloc
  · refine ⟨E, hI, Stp.refl E H w, ELe.refl E, fun id h => ?_⟩
    unfold Env.at
    rw [List.getElem?_eq_none (by rw [hI.len]; exact h)]
    rfl
  · obtain ⟨h1, h2⟩ := inv_keep hI ops.size
    exact ⟨E.keep ops.size, h1, h2, keep_le E _, fun id h => keep_new (by rw [hI.len]; exact h)⟩

theorem evDraw_ok {C : Ctx} {E : Env} {H : Heap} {w : World} {r : EvT} (hT : TyOk C) (hQ : EqOk C) (hr : SoundCall C r) (hs : SumOk C) (hm : C.P.follows .mixedOrders = true) {id : Nat} {ops : Array Oper} {Q : Exit → Act → World → Prop} {e e' : Fr} {H' : Heap} {a : Act}
    (hB : Region.lexB .any ops = true) (h : (evDraw C r ops e H).run = some (e', H')) (hI : Inv C E H w) (hf : FrR E e a) (hd : ∀ o ∈ ops.toList, ∀ d, o.dst = some d → d < a.tmps.size)
    (hq : ∀ E' a' w', ELe E E' → Stp E H w E' H' w' → Inv C E' H' w' → FrR E' e' a' → a'.defers = a.defers → a'.tmps.size = a.tmps.size → Q .normal a' w') : (Code.region id ops true).wp C.P Q a w := by
  simp only [Region.lexB, Bool.and_eq_true] at hB
  obtain ⟨⟨e1, H1, F⟩, h1, h2⟩ := T.of_bind h
  obtain ⟨hF, h2⟩ := T.of_chk h2
  have h2 := Option.some.inj h2
  simp only [Prod.mk.injEq] at h2
  obtain ⟨rfl, rfl⟩ := h2
  obtain ⟨E0, i0, s0, l0, u0⟩ := inv_resv hI ops
  obtain ⟨hI', hS'⟩ := inv_drawn i0 (w.drawn + 1)
  have h3 := anyY_lex (ops := ops) (F := F) hF ops.toList 0 (Array.replicate ops.size false) e (resv ops H) e1 H1 F (by simp) (by simp) (by simp) (by simpa using hB.2) h1
  refine wp_region_any hm ?_
  have h3 : anyY C r H.length ops F (fun φ K => φ = (look e1 : AF) ∧ K = H1) ops.size (Array.replicate ops.size false) (look e) (resv ops H) := by simpa using h3
  refine wpAny_of_anyY hT hQ hr hs ops.size _ _ (resv ops H) e E0 a _ rfl hI' (hf.mono l0) hd (fun i o _ _ _ _ => u0 _ (by omega)) (fun E' a' w' g1 gu g2 g3 g4 g5 g6 => ?_) h3
  refine hq E' a' w' ⟨fun id x hx => g1.ρ id x (l0.ρ id x hx), fun b o c hb => g1.G b o c (l0.G b o c hb), Nat.le_trans l0.len g1.len, fun id hid hn => ?_⟩ ((s0.trans hS').trans g2) g3 g4 g5 g6
  exact gu id (by rw [← hI.len]; exact hid) (Nat.lt_of_lt_of_le hid l0.len) (l0.un id hid hn)
end Go.Ev
