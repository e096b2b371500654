/- Evaluator: soundness, part 15: code, calls; the theorem. -/
import Derived.Test.YtfkpbchdapccmaaDoorEvW
namespace Go.Ev

def codeOk (n : Nat) : Code → Bool
  | .region _ ops draw => ops.toList.all (fun o => match o.dst with | some d => Nat.ble (d + 1) n | none => true) && (!draw || Region.lexB .any ops)
  | .seq a b | .cond _ a b => codeOk n a && codeOk n b
  | .block _ b | .loop b => codeOk n b
  | _ => true

def CodeOk (C : Ctx) : Prop := ∀ (f : FuncId) (fd : FD), C.code f = some fd → C.P.funcs[f]? = some fd.fn ∧ (fd.fn.name == "runtime.NumGoroutine") = false ∧ ∀ c, fd.fn.body = some c → codeOk fd.fn.ntmps c = true

structure Ok (C : Ctx) : Prop where
  ty : TyOk C
  eq : EqOk C
  code : CodeOk C
  sum : SumOk C
  mixed : C.P.follows .mixedOrders = true

def exitOf : X → Exit
  | .n => .normal
  | .ex id => .exit id
  | .ret => .ret

/-- A loop's wp as so many rounds. -/
def WpR (P : Program) (N : Nat) (c : Code) (Q : Exit → Act → World → Prop) (a : Act) (w : World) : Prop :=
  match c with
  | .loop b => Code.rounds P b Q N a w
  | c => c.wp P Q a w

theorem WpR.wp {P : Program} {N : Nat} {c : Code} {Q : Exit → Act → World → Prop} {a : Act} {w : World} (h : WpR P N c Q a w) : c.wp P Q a w := by
  unfold WpR at h
  split at h
  · exact wp_loop_rounds N h
  · exact h

def Post (E : Env) (st : St) (w : World) (a : Act) (C : Ctx) (x : X) (st' : St) (Q : Exit → Act → World → Prop) : Prop :=
  ∀ E' a' w', PLe st.m E E' → Stp E st.H w E' st'.H w' → Inv C E' st'.H w' → FrR E' st'.e a' → a'.defers = a.defers → a'.tmps.size = a.tmps.size → st'.m = st.m → st.m ≤ st'.H.length → Q (exitOf x) a' w'

def SoundCode (C : Ctx) (N : Nat) (r : EvT) : Prop := ∀ (fd : FD) (c : Code) (st : St) (x : X) (st' : St), (r.code fd c st).run = some (x, st') → ∀ (E : Env) (w : World) (a : Act), codeOk a.tmps.size c = true → Inv C E st.H w → FrR E st.e a → st.m ≤ st.H.length →
  ∀ Q, Post E st w a C x st' Q → WpR C.P N c Q a w

section
variable {C : Ctx} {E : Env} {H : Heap} {w : World}

theorem look_keep (l : List Tmp) (e : Fr) (t : Tmp) : look (keepF l e) t = .undef ∨ look (keepF l e) t = look e t := by
  induction l with
  | nil => exact .inl rfl
  | cons s l ih =>
    simp only [keepF, List.map_cons, look]
    cases hb : Nat.beq s t
    · exact ih
    · right
      have := Nat.eq_of_beq_eq_true hb
      rw [this]; rfl

theorem FrR.keep {e : Fr} {a : Act} (h : FrR E e a) (l : List Tmp) : FrR E (keepF l e) a := by
  intro t
  rcases look_keep l e t with h1 | h1
  · rw [h1]; exact .pers (.undef _)
  · rw [h1]; exact h t

theorem look_init : ∀ (l : List AV) (i t : Nat), look (initE i l) t = if i ≤ t then l.getD (t - i) .undef else .undef
  | [], i, t => by simp [initE, look]
  | v :: l, i, t => by
    simp only [initE, look]
    cases hb : Nat.beq i t
    · have hne : i ≠ t := fun e => by subst e; simp at hb
      simp only [cond_false, look_init l (i + 1) t]
      by_cases h : i ≤ t
      · rw [if_pos (by omega), if_pos h]
        have : t - i = (t - (i + 1)) + 1 := by omega
        rw [this]; rfl
      · rw [if_neg (by omega), if_neg h]
    · have := Nat.eq_of_beq_eq_true hb
      subst this
      simp

theorem FrR.init {args : List AV} {vs : List Value} (h : RL E args vs) (n : Nat) : FrR E (initE 0 args) { tmps := vs.toArray ++ Array.replicate (n - vs.toArray.size) undef, defers := [] } := by
  intro t
  rw [look_init]
  simp only [Nat.zero_le, if_true, Nat.sub_zero]
  have hl := h.length
  by_cases ht : t < args.length
  · obtain ⟨c, h1, h2⟩ := h.get t ht
    have : (vs.toArray ++ Array.replicate (n - vs.toArray.size) undef).getD t undef = c := by
      have hsz : t < vs.toArray.size := by simpa [hl] using ht
      rw [Array.getD_eq_getD_getElem?, Array.getElem?_append_left hsz]
      simp [h1]
    rw [this]; exact h2
  · have : args.getD t .undef = .undef := by simp [List.getD, List.getElem?_eq_none (Nat.le_of_not_lt ht)]
    rw [this]; exact .pers (.undef _)

theorem clear_look (s : Tmp) (e : Fr) (t : Tmp) : look (e.map fun p => bif Nat.beq p.1 s then (p.1, AV.undef) else p) t = .undef ∨ look (e.map fun p => bif Nat.beq p.1 s then (p.1, AV.undef) else p) t = look e t := by
  induction e with
  | nil => exact .inl rfl
  | cons p e ih =>
    simp only [List.map_cons, look]
    cases h1 : Nat.beq p.1 s
    · simp only [cond_false]
      cases h2 : Nat.beq p.1 t
      · exact ih
      · exact .inr rfl
    · simp only [cond_true]
      cases h2 : Nat.beq p.1 t
      · simpa [h2] using ih
      · exact .inl rfl

def resF (tmps : Array Value) : ResultVar → Sem Value
  | .tmp t => pure (tmps.getD t undef)
  | .cell x t => do loadVar t (← asAddr (tmps.getD x undef))

theorem results_eq (fn : Func) (tmps : Array Value) : results fn tmps = (do let vs ← fn.results.mapM (resF tmps); pure (if h : vs.size = 1 then vs[0] else .tuple vs)) := by
  have : (resF tmps) = (fun x => match x with
    | .tmp t => pure (tmps.getD t undef)
    | .cell x t => do loadVar t (← asAddr (tmps.getD x undef))) := by
    funext x; cases x <;> rfl
  rw [this]
  rfl

theorem resA_ok (hT : TyOk C) {st : St} (hI : Inv C E st.H w) {a : Act} (hf : FrR E st.e a) : ∀ {l : List ResultVar} {vs : List AV}, (resA C st l).run = some vs →
    ∃ cs, RL E vs cs ∧ (l.mapM (resF a.tmps)).run C.P w = .ok cs w
  | [], vs, h => by cases Option.some.inj h; exact ⟨[], .nil, by simp⟩
  | .tmp t :: l, vs, h => by
    simp only [resA] at h
    obtain ⟨r, h1, h2⟩ := T.of_bind h
    cases Option.some.inj h2
    obtain ⟨cs, h3, h4⟩ := resA_ok hT hI hf h1
    exact ⟨_ :: cs, .cons (hf t) h3, by simp only [List.mapM_cons, resF, Sem.run_bind, Sem.run_pure, Result.andThen_ok, h4]⟩
  | .cell x t :: l, vs, h => by
    simp only [resA] at h
    obtain ⟨v, h0, h⟩ := T.of_bind h
    obtain ⟨r, h1, h2⟩ := T.of_bind h
    cases Option.some.inj h2
    obtain ⟨cs, h3, h4⟩ := resA_ok hT hI hf h1
    obtain ⟨c, h5, h6⟩ := loadA_ok hT hI h0 (hf x)
    refine ⟨c :: cs, .cons h6 h3, ?_⟩
    have h7 : (resF a.tmps (.cell x t)).run C.P w = .ok c w := by
      show ((do loadVar t (← asAddr (a.tmps.getD x undef))) : Sem Value).run C.P w = .ok c w
      have hx := hf x
      have h0' := h0
      unfold loadA at h0'
      split at h0'
      · rename_i e1
        rw [e1] at hx
        obtain ⟨b, m, _, e2⟩ := hx.own_inv
        rw [e2] at h5 ⊢
        simpa [Instr.loadAt, Instr.sureAddr, asAddr] using h5
      · rename_i e1
        rw [e1] at hx
        obtain ⟨b, m, e2, _⟩ := hx.rp_inv
        rw [e2] at h5 ⊢
        simpa [Instr.loadAt, Instr.sureAddr, asAddr] using h5
      · simp [T.run] at h0'
    simp only [List.mapM_cons]
    rw [Sem.run_bind, h7]
    simp only [Sem.run_bind, Sem.run_pure, Result.andThen_ok, h4]

theorem tup_ok {vs : List AV} {cs : List Value} (h : RL E vs cs) : R E (tupA vs) (if h : cs.toArray.size = 1 then cs.toArray[0] else .tuple cs.toArray) := by
  cases h with
  | nil => simpa [tupA] using R.tup (E := E) (l := []) (cs := []) .nil
  | cons a h =>
    cases h with
    | nil => simpa [tupA] using a
    | cons b h =>
      have : R E (.tup (_ :: _ :: _)) (.tuple (_ :: _ :: _ : List Value).toArray) := .tup (.cons a (.cons b h))
      simpa [tupA] using this

theorem frame_test {fd : FD} {st : St} {a : Act} (c : Operand) (hf : FrR E st.e a) : ∃ e', testF fd c st = { st with e := e' } ∧ FrR E e' a := by
  unfold testF
  split
  · rename_i s
    cases fd.ct.contains s
    · exact ⟨st.e, rfl, hf⟩
    · refine ⟨_, rfl, fun t => ?_⟩
      rcases clear_look s st.e t with h1 | h1
      · rw [h1]; exact .pers (.undef _)
      · rw [h1]; exact hf t
  · exact ⟨st.e, rfl, hf⟩

theorem step_code (hO : Ok C) {N : Nat} {r : EvT} (hc : SoundCode C N r) (hr : SoundCall C r) : SoundCode C (N + 1) (step C r) := by
  intro fd c st x st' h E w a hok hI hf hm Q hq
  simp only [step] at h
  split at h
  · cases Option.some.inj h
    exact wp_skip (hq E a w (PLe.refl _ _) (Stp.refl _ _ _) hI hf rfl rfl rfl hm)
  · -- region
    rename_i id ops draw
    obtain ⟨⟨e1, H1⟩, h1, h2⟩ := T.of_bind h
    cases Option.some.inj h2
    simp only [codeOk, Bool.and_eq_true, List.all_eq_true] at hok
    have hd : ∀ o ∈ ops.toList, ∀ d, o.dst = some d → d < a.tmps.size := fun o ho d hd => by
      have := hok.1 o ho
      rw [hd] at this
      exact Nat.le_of_ble_eq_true this
    have post : ∀ E' a' w', ELe E E' → Stp E st.H w E' H1 w' → Inv C E' H1 w' → FrR E' e1 a' → a'.defers = a.defers → a'.tmps.size = a.tmps.size → Q .normal a' w' := fun E' a' w' h3 h4 h5 h6 h7 h8 => by
      have hlen := h3.len
      exact hq E' a' w' (h3.ple _) h4 h5 (h6.keep _) h7 h8 rfl (by have := hI.len; have := h5.len; simp only; omega)
    cases draw with
    | false => exact wp_region_list (evOps_ok hO.ty hO.eq hr hO.sum _ _ _ _ _ h1 E w a hI hf hd post)
    | true => exact evDraw_ok hO.ty hO.eq hr hO.sum hO.mixed (by simpa using hok.2) h1 hI hf hd post
  · -- seq
    rename_i ca cb
    obtain ⟨⟨x1, st1⟩, h1, h2⟩ := T.of_bind h
    simp only [codeOk, Bool.and_eq_true] at hok
    refine wp_seq (hc fd ca st x1 st1 h1 E w a hok.1 hI hf hm _ ?_).wp
    intro E' a' w' g1 g2 g3 g4 g5 g6 g7 g8
    cases x1 with
    | n =>
      refine (hc fd cb st1 x st' h2 E' w' a' (by rw [g6]; exact hok.2) g3 g4 (by omega) Q ?_).wp
      intro E'' a'' w'' k1 k2 k3 k4 k5 k6 k7 k8
      exact hq E'' a'' w'' (PLe.trans (by rw [hI.len]; exact hm) g1 (by rw [← g7]; exact k1)) (g2.trans k2) k3 k4 (k5.trans g5) (k6.trans g6) (k7.trans g7) (by omega)
    | ex id => cases Option.some.inj h2; exact hq E' a' w' g1 g2 g3 g4 g5 g6 g7 g8
    | ret => cases Option.some.inj h2; exact hq E' a' w' g1 g2 g3 g4 g5 g6 g7 g8
  · -- cond
    rename_i cc ca cb
    simp only [codeOk, Bool.and_eq_true] at hok
    split at h
    · rename_i t ht
      have hcv := opnd_ok hI hf cc
      rw [ht] at hcv
      have hcv := hcv.bool_inv
      obtain ⟨e', he', hf'⟩ := frame_test (fd := fd) (st := st) cc hf
      simp only [he'] at h
      rcases T.of_br h with ⟨h1, h2⟩ | ⟨h1, h2⟩
      · subst h1
        exact wp_cond_true hcv (hc fd ca { st with e := e' } x st' h2 E w a hok.1 hI hf' hm Q hq).wp
      · subst h1
        exact wp_cond_false hcv (hc fd cb { st with e := e' } x st' h2 E w a hok.2 hI hf' hm Q hq).wp
    · simp [T.run] at h
  · -- block
    rename_i id b
    obtain ⟨⟨x1, st1⟩, h1, h2⟩ := T.of_bind h
    simp only [codeOk] at hok
    refine wp_block (hc fd b st x1 st1 h1 E w a hok hI hf hm _ ?_).wp
    intro E' a' w' g1 g2 g3 g4 g5 g6 g7 g8
    cases x1 with
    | n => cases Option.some.inj h2; exact hq E' a' w' g1 g2 g3 g4 g5 g6 g7 g8
    | ret => cases Option.some.inj h2; exact hq E' a' w' g1 g2 g3 g4 g5 g6 g7 g8
    | ex j =>
      simp only at h2
      cases hb : Nat.beq j id
      · rw [hb] at h2
        cases Option.some.inj h2
        have : j ≠ id := fun e => by subst e; simp at hb
        simp only [exitOf, Exit.inBlock, this, if_false]
        exact hq E' a' w' g1 g2 g3 g4 g5 g6 g7 g8
      · rw [hb] at h2
        cases Option.some.inj h2
        have := Nat.eq_of_beq_eq_true hb
        simp only [exitOf, Exit.inBlock, this, if_true]
        exact hq E' a' w' g1 g2 g3 g4 g5 g6 g7 g8
  · -- loop
    rename_i b
    obtain ⟨⟨x1, st1⟩, h1, h2⟩ := T.of_bind h
    simp only [codeOk] at hok
    show Code.rounds C.P b Q (N + 1) a w
    rw [rounds_succ]
    refine (hc fd b st x1 st1 h1 E w a hok hI hf hm _ ?_).wp
    intro E' a' w' g1 g2 g3 g4 g5 g6 g7 g8
    cases x1 with
    | n =>
      obtain ⟨E2, k1, k2, k3, k4, k5, k6⟩ := gc_ok g3 g4 (show st1.m ≤ st1.H.length by rw [g7]; exact g8)
      have := hc fd (.loop b) (gc st1) x st' h2 E2 w' a' (by rw [g6]; simpa [codeOk] using hok) k2 k4 (by rw [k5]; exact k6) Q ?_
      · exact this
      intro E'' a'' w'' m1 m2 m3 m4 m5 m6 m7 m8
      rw [k5, g7] at m1 m7 m8
      rw [g7] at k1
      exact hq E'' a'' w'' (PLe.trans (by rw [hI.len]; exact hm) g1 (PLe.trans (by rw [g3.len]; exact g8) k1 m1)) (g2.trans (k3.trans m2)) m3 m4 (m5.trans g5) (m6.trans g6) m7 m8
    | ex id => cases Option.some.inj h2; exact hq E' a' w' g1 g2 g3 g4 g5 g6 g7 g8
    | ret => cases Option.some.inj h2; exact hq E' a' w' g1 g2 g3 g4 g5 g6 g7 g8
  · cases Option.some.inj h
    exact wp_exit (hq E a w (PLe.refl _ _) (Stp.refl _ _ _) hI hf rfl rfl rfl hm)
  · cases Option.some.inj h
    exact wp_ret (hq E a w (PLe.refl _ _) (Stp.refl _ _ _) hI hf rfl rfl rfl hm)
  · simp [T.run] at h

theorem step_call (hO : Ok C) {N : Nat} {r : EvT} (hc : SoundCode C N r) : SoundCall C (step C r) := by
  intro f args H v H' h
  simp only [step] at h
  split at h
  · simp [T.run] at h
  rename_i fd hfd
  split at h
  · simp [T.run] at h
  rename_i c hbody
  obtain ⟨k1, k2, k3⟩ := hO.code f fd hfd
  refine ⟨⟨fd.fn, k1, by simp [hbody], k2⟩, fun E w vs hI ha => ?_⟩
  obtain ⟨hn, h⟩ := T.of_chk h
  simp only [Nat.ble_eq] at hn
  obtain ⟨⟨x, st'⟩, h1, h2⟩ := T.of_bind h
  have hl := ha.length
  have hsize : (vs.toArray ++ Array.replicate (fd.fn.ntmps - vs.toArray.size) undef).size = fd.fn.ntmps := by simp; omega
  refine calls_of_wp k1 hbody ?_
  refine (hc fd c _ x st' h1 E w _ (by rw [hsize]; exact k3 c hbody) hI ((FrR.init ha fd.fn.ntmps).keep _) (Nat.le_refl _) _ ?_).wp
  intro E' a' w' g1 g2 g3 g4 g5 g6 g7 g8
  have fin : ∀ {vs' : List AV}, (resA C st' fd.fn.results.toList).run = some vs' → v = tupA vs' → H' = st'.H → a'.defers = [] ∧ ∃ v', (results fd.fn a'.tmps).run C.P w' = .ok v' w' ∧ ∃ c E', Ending.returned v' = .returned c ∧ Good C E H w v H' c w' E' := by
    intro vs' h3 hv hH
    subst hv hH
    obtain ⟨cs, h4, h5⟩ := resA_ok hO.ty g3 g4 h3
    refine ⟨g5, _, ?_, _, E', rfl, ⟨g1.ele hI.len, g2, g3, tup_ok h4⟩⟩
    have e1 : (fd.fn.results.mapM (resF a'.tmps)).run C.P w' = .ok cs.toArray w' := by
      rw [← Array.toArray_toList (xs := fd.fn.results), List.mapM_toArray]
      simp only [Sem.run_map, h5, Result.andThen_ok]
    rw [results_eq, Sem.run_bind, e1]
    simp only [Result.andThen_ok, Sem.run_pure]
  cases x with
  | ex id => simp [T.run] at h2
  | n =>
    obtain ⟨vs', h3, h4⟩ := T.of_bind h2
    cases Option.some.inj h4
    exact fin h3 rfl rfl
  | ret =>
    obtain ⟨vs', h3, h4⟩ := T.of_bind h2
    cases Option.some.inj h4
    exact fin h3 rfl rfl

/-- **WHAT THE EVALUATOR GIVES, THE PROGRAM DOES.** -/
theorem sound (hO : Ok C) : ∀ n, SoundCode C n (ev C n) ∧ SoundCall C (ev C n)
  | 0 => ⟨fun _ _ _ _ _ h => by simp [ev, T.run] at h, fun _ _ _ _ _ h => by simp [ev, T.run] at h⟩
  | n + 1 => ⟨step_code hO (sound hO n).1 (sound hO n).2, step_call hO (sound hO n).1⟩

/-- A call on what names no block of the caller's own. -/
theorem iso_sound (hO : Ok C) {n : Nat} {f : FuncId} {args : List AV} {v : AV} {Hf : Heap} (h : ((ev C n).call f args []).run = some (v, Hf)) : FnOk C f ∧ Iso C f args (frz Hf v) :=
  ⟨((sound hO n).2 f args [] v Hf h).1, iso_of_call (sound hO n).2 h⟩
end
end Go.Ev
