/- Evaluator: soundness, part 11: rows of operations in the order of the text. -/
import Derived.Test.YtfkpbchdapccmaaDoorEvM
namespace Go.Ev

section
variable {C : Ctx} {E : Env} {H : Heap} {w : World}

theorem FrR.mono {E' : Env} {e : Fr} {a : Act} (h : FrR E e a) (hle : ELe E E') : FrR E' e a := fun t => (h t).mono hle

theorem look_put (e : Fr) (d : Option Tmp) (v : AV) (t : Tmp) : look (putE e d v) t = if d = some t then v else look e t := by
  cases d with
  | none => simp [putE]
  | some s =>
    simp only [putE, look, Option.some.injEq]
    by_cases h : s = t
    · subst h; simp
    · have : Nat.beq s t = false := by
        cases hb : Nat.beq s t
        · rfl
        · exact absurd (Nat.eq_of_beq_eq_true hb) h
      simp [h, this]

theorem getD_put (a : Act) (d : Option Tmp) (c : Value) (t : Tmp) (hd : ∀ s, d = some s → s < a.tmps.size) : (a.put d c).tmps.getD t undef = if d = some t then c else a.tmps.getD t undef := by
  cases d with
  | none => simp [Act.put]
  | some s =>
    have hs := hd s rfl
    simp only [Act.put, Option.some.injEq]
    by_cases h : s = t
    · subst h; simp [Array.getD, hs]
    · simp [Array.getD_eq_getD_getElem?, Array.getElem?_setIfInBounds_ne h, h]

theorem FrR.put {e : Fr} {a : Act} {d : Option Tmp} {v : AV} {c : Value} (h : FrR E e a) (hv : R E v c) (hd : ∀ s, d = some s → s < a.tmps.size) : FrR E (putE e d v) (a.put d c) := by
  intro t
  rw [look_put, getD_put a d c t hd]
  split
  · exact hv
  · exact h t

theorem put_size (a : Act) (d : Option Tmp) (c : Value) : (a.put d c).tmps.size = a.tmps.size := by
  cases d <;> simp [Act.put]
theorem put_defers' (a : Act) (d : Option Tmp) (c : Value) : (a.put d c).defers = a.defers := by
  cases d <;> simp [Act.put]

theorem FrR.bool {e : Fr} {a : Act} (h : FrR E e a) {s : Tmp} {b : Bool} (hs : look e s = .bool b) : a.tmps[s]? = some (.bool b) := by
  have := h s
  rw [hs] at this
  have := this.bool_inv
  rw [Array.getD_eq_getD_getElem?] at this
  cases hg : a.tmps[s]? with
  | none => rw [hg] at this; simp [undef] at this
  | some x => rw [hg] at this; simp at this; rw [this]

theorem FrR.bot {e : Fr} {a : Act} (h : FrR E e a) {s : Tmp} (hs : look e s = .tup []) : ∀ b, a.tmps[s]? ≠ some (.bool b) := by
  intro b hg
  have := h s
  rw [hs] at this
  obtain ⟨cs, h1, _⟩ := this.tup_inv
  rw [Array.getD_eq_getD_getElem?, hg] at h1
  simp at h1

theorem FrR.guard {e : Fr} {a : Act} (h : FrR E e a) {s : Tmp} {b : Bool} (hs : look e s = .bool b) : FrR E ((s, .bool b) :: e) a := by
  intro t
  have h1 := h t
  simp only [look]
  cases hb : Nat.beq s t
  · exact h1
  · have := Nat.eq_of_beq_eq_true hb
    subst this
    simp only [cond_true]
    rw [hs] at h1; exact h1

theorem wanted_bool {all : Array Oper} {o : Oper} {j : Nat} {want : Bool} {s : Tmp} {a : Act} {b : Bool} (hg : o.guard = some (j, want)) (hs : (all[j]?).bind (·.dst) = some s) (hb : a.tmps[s]? = some (.bool b)) :
    Region.wanted o (yielded all a.tmps) = (b == want) := by
  simp only [Region.wanted, hg, yielded, hs, Option.bind_some, hb]
  cases b <;> cases want <;> rfl

theorem wanted_bot {all : Array Oper} {o : Oper} {j : Nat} {want : Bool} {s : Tmp} {a : Act} (hg : o.guard = some (j, want)) (hs : (all[j]?).bind (·.dst) = some s) (hb : ∀ b, a.tmps[s]? ≠ some (.bool b)) :
    Region.wanted o (yielded all a.tmps) = false := by
  have : yielded all a.tmps j = none := by
    unfold yielded
    rw [hs]
    simp only [Option.bind_some]
  simp only [Region.wanted, hg, this]
  rfl

/-- What one operation's result does to what follows. -/
theorem upon_of_res {o : Oper} {a : Act} {v : AV} {H' : Heap} {next : Act → World → Prop} {Q : Exit → Act → World → Prop} (h : OpRes C E H w ((execOp a.eval o).run C.P w) v H')
    (hn : ∀ c w' E', Good C E H w v H' c w' E' → next (a.put o.dst c) w') : o.wp C.P a w next Q := by
  unfold Oper.wp
  rcases h with ⟨c, w', E', h1, h2⟩ | ⟨w', E', h1, h2⟩ | ⟨f, vs, h1, h2⟩
  · rw [h1]; exact hn _ _ _ h2
  · rw [h1]; exact hn _ _ _ h2
  · rw [h1]
    refine Calls.mono h2 fun e w'' ⟨c, E', he, h3⟩ => ?_
    subst he
    exact hn _ _ _ h3

theorem evOps_ok {r : EvT} (hT : TyOk C) (hQ : EqOk C) (hr : SoundCall C r) (hs : SumOk C) {draw : Bool} {all : Array Oper} {Q : Exit → Act → World → Prop} :
    ∀ (l : List Oper) (e : Fr) (H : Heap) (e' : Fr) (H' : Heap), (evOps C r draw all l e H).run = some (e', H') → ∀ (E : Env) (w : World) (a : Act), Inv C E H w → FrR E e a → (∀ o ∈ l, ∀ d, o.dst = some d → d < a.tmps.size) →
      (∀ E' a' w', ELe E E' → Stp E H w E' H' w' → Inv C E' H' w' → FrR E' e' a' → a'.defers = a.defers → a'.tmps.size = a.tmps.size → Q .normal a' w') → wpList C.P all Q l a w
  | [], e, H, e', H', h, E, w, a, hI, hf, _, hq => by
    cases Option.some.inj h
    exact hq E a w (ELe.refl E) (Stp.refl E H w) hI hf rfl rfl
  | o :: rest, e, H, e', H', h, E, w, a, hI, hf, hd, hq => by
    have hdo := hd o (by simp)
    have hrest : ∀ {a' : Act}, a'.tmps.size = a.tmps.size → ∀ o ∈ rest, ∀ d, o.dst = some d → d < a'.tmps.size := fun hsz o ho d hd' => by rw [hsz]; exact hd o (by simp [ho]) d hd'
    -- the operation is carried out
    have run : ∀ {e1 : Fr}, FrR E e1 a → ((evOp C r draw e1 H o).bind fun p => evOps C r draw all rest (putE e1 o.dst p.1) p.2).run = some (e', H') → o.wp C.P a w (wpList C.P all Q rest) Q := by
      intro e1 hf1 h1
      obtain ⟨⟨v, H1⟩, h2, h3⟩ := T.of_bind h1
      refine upon_of_res (evOp_ok hT hQ hr hs hI hf1 h2).1 fun c w' E' hg => ?_
      refine evOps_ok hT hQ hr hs rest _ H1 e' H' h3 E' w' _ hg.inv ((hf1.mono hg.le).put hg.r hdo) (hrest (put_size _ _ _)) fun E'' a' w'' h4 h5 h6 h7 h8 h9 => ?_
      exact hq E'' a' w'' (hg.le.trans h4) (hg.stp.trans h5) h6 h7 (h8.trans (put_defers' _ _ _)) (h9.trans (put_size _ _ _))
    -- it is passed over
    have skip : ∀ {e1 : Fr}, FrR E e1 a → (evOps C r draw all rest (putE e1 o.dst (.tup [])) H).run = some (e', H') → wpList C.P all Q rest (a.put o.dst undef) w := by
      intro e1 hf1 h1
      refine evOps_ok hT hQ hr hs rest _ H e' H' h1 E w _ hI (hf1.put (.tup (cs := []) .nil) hdo) (hrest (put_size _ _ _)) fun E'' a' w'' h4 h5 h6 h7 h8 h9 => ?_
      exact hq E'' a' w'' h4 h5 h6 h7 (h8.trans (put_defers' _ _ _)) (h9.trans (put_size _ _ _))
    simp only [evOps] at h
    unfold wpList
    split at h
    · rename_i hg
      rw [if_pos (by simp [Region.wanted, hg])]
      exact .inl (run hf h)
    · rename_i j want hg
      split at h
      · simp [T.run] at h
      · rename_i s hsd
        split at h
        · rename_i b hb
          have hw := wanted_bool hg hsd (hf.bool hb)
          rw [hw]
          rcases T.of_br h with ⟨h1, h2⟩ | ⟨h1, h2⟩
          · subst h1
            rw [if_pos (by simp)]
            exact .inl (run (hf.guard hb) h2)
          · subst h1
            rw [if_neg (by simp)]
            exact skip (hf.guard hb) h2
        · rename_i b hb
          have hw := wanted_bool hg hsd (hf.bool hb)
          rw [hw]
          rcases T.of_br h with ⟨h1, h2⟩ | ⟨h1, h2⟩
          · subst h1
            rw [if_neg (by simp)]
            exact skip (hf.guard hb) h2
          · subst h1
            rw [if_pos (by simp)]
            exact .inl (run (hf.guard hb) h2)
        · rename_i hb
          rw [wanted_bot hg hsd (hf.bot hb), if_neg (by simp)]
          exact skip hf h
        · simp [T.run] at h
end
end Go.Ev
