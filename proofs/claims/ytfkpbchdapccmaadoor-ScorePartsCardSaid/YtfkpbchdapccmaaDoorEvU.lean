/- Evaluator: the same, with what follows handed on (no tree is rebuilt on the way up). -/
import Derived.Test.YtfkpbchdapccmaaDoorEvT
namespace Go.Ev

theorem T.bind_assoc {α β γ : Type} (t : T α) (f : α → T β) (g : β → T γ) : (t.bind f).bind g = t.bind fun a => (f a).bind g := by
  induction t with
  | leaf a => rfl
  | br b x y hx hy => simp only [T.bind, hx, hy]
  | fail => rfl
theorem T.bind_leaf {α : Type} (t : T α) : t.bind .leaf = t := by
  induction t with
  | leaf a => rfl
  | br b x y hx hy => simp only [T.bind, hx, hy]
  | fail => rfl
theorem T.chk_bind {α β : Type} (b : Bool) (t : T α) (k : α → T β) : (T.chk b t).bind k = T.chk b (t.bind k) := rfl

structure EvK (β : Type) where
  call : FuncId → List AV → Heap → (AV × Heap → T β) → T β
  code : FD → Code → St → (X × St → T β) → T β

section
variable {β : Type} (C : Ctx)

def callK (r : EvK β) (draw : Bool) (H : Heap) (f : FuncId) (args : List AV) (k : AV × Heap → T β) : T β :=
  match C.sum f with
  | some F => .chk (freeL args) ((F args).bind fun v => .chk v.free (k (v, H)))
  | none => match freeL args with
    | true => r.call f args [] fun p => .chk (frz p.2 p.1).free (k (frz p.2 p.1, H))
    | false => match draw with
      | true => .fail
      | false => r.call f args H k

def noEv : EvT := { call := fun _ _ _ => .fail, code := fun _ _ _ => .fail }

def evOpK (r : EvK β) (draw : Bool) (e : Fr) (H : Heap) (o : Oper) (k : AV × Heap → T β) : T β :=
  match o.op with
  | .call c => match c.callee with
    | .value (.func f) => callK C r draw H f (opnds C e c.args) k
    | .value g => match opnd C e g with
      | .fn f first caps => callK C r draw H f (first ++ opnds C e c.args ++ caps) k
      | _ => .fail
    | _ => (evOp C noEv draw e H o).bind k
  | _ => (evOp C noEv draw e H o).bind k

def evOpsK (r : EvK β) (draw : Bool) (all : Array Oper) : List Oper → Fr → Heap → (Fr × Heap → T β) → T β
  | [], e, H, k => k (e, H)
  | o :: rest, e, H, k =>
    match o.guard with
    | none => evOpK C r draw e H o fun p => evOpsK r draw all rest (putE e o.dst p.1) p.2 k
    | some (j, want) =>
      match (all[j]?).bind (·.dst) with
      | none => .fail
      | some s =>
        let yes : T β := evOpK C r draw ((s, .bool want) :: e) H o fun p => evOpsK r draw all rest (putE ((s, .bool want) :: e) o.dst p.1) p.2 k
        let no : T β := evOpsK r draw all rest (putE ((s, .bool (!want)) :: e) o.dst (.tup [])) H k
        match look e s, want with
        | .bool b, true => .br b yes no
        | .bool b, false => .br b no yes
        | .tup [], _ => evOpsK r draw all rest (putE e o.dst (.tup [])) H k
        | _, _ => .fail

def evOpXK (r : EvK β) (e : Fr) (H : Heap) (slot : Nat) (o : Oper) (k : AV × Heap → T β) : T β :=
  match o.op with
  | .alloc _ => (evOpX C noEv e H slot o).bind k
  | _ => evOpK C r true e H o k

def evOpsDK (r : EvK β) (n0 : Nat) (all : Array Oper) : List Oper → Fr → Heap → List FP → (Fr × Heap × List FP → T β) → T β
  | [], e, H, F, k => k (e, H, F)
  | o :: rest, e, H, F, k =>
    match o.guard with
    | none => evOpXK C r e H (n0 + (all.size - (rest.length + 1))) o fun p => evOpsDK r n0 all rest (putE e o.dst p.1) p.2 (F ++ [fpOf C e (n0 + (all.size - (rest.length + 1))) o]) k
    | some (j, want) =>
      match (all[j]?).bind (·.dst) with
      | none => .fail
      | some s =>
        let yes : T β := evOpXK C r ((s, .bool want) :: e) H (n0 + (all.size - (rest.length + 1))) o fun p => evOpsDK r n0 all rest (putE ((s, .bool want) :: e) o.dst p.1) p.2 (F ++ [fpOf C ((s, .bool want) :: e) (n0 + (all.size - (rest.length + 1))) o]) k
        let no : T β := evOpsDK r n0 all rest (putE ((s, .bool (!want)) :: e) o.dst (.tup [])) H (F ++ [⟨[], []⟩]) k
        match look e s, want with
        | .bool b, true => .br b yes no
        | .bool b, false => .br b no yes
        | .tup [], _ => evOpsDK r n0 all rest (putE e o.dst (.tup [])) H (F ++ [⟨[], []⟩]) k
        | _, _ => .fail

def evDrawK (r : EvK β) (ops : Array Oper) (e : Fr) (H : Heap) (k : Fr × Heap → T β) : T β :=
  evOpsDK C r H.length ops ops.toList e (resv ops H) [] fun q => .chk (fpsB ops q.2.2) (k (q.1, q.2.1))

def stepK (r : EvK β) : EvK β where
  code fd c st k :=
    match c with
    | .skip => k (.n, st)
    | .region _ ops draw => match draw with
      | true => evDrawK C r ops st.e st.H fun p => k (.n, { st with e := keepF fd.keep p.1, H := p.2 })
      | false => evOpsK C r false ops ops.toList st.e st.H fun p => k (.n, { st with e := keepF fd.keep p.1, H := p.2 })
    | .seq a b => r.code fd a st fun p => match p.1 with
      | .n => r.code fd b p.2 k
      | x => k (x, p.2)
    | .cond c a b => match opnd C st.e c with
      | .bool t => .br t (r.code fd a (testF fd c st) k) (r.code fd b (testF fd c st) k)
      | _ => .fail
    | .block id b => r.code fd b st fun p => match p.1 with
      | .ex j => bif Nat.beq j id then k (.n, p.2) else k (.ex j, p.2)
      | x => k (x, p.2)
    | .loop b => r.code fd b st fun p => match p.1 with
      | .n => r.code fd (.loop b) (gc p.2) k
      | x => k (x, p.2)
    | .exit id => k (.ex id, st)
    | .ret => k (.ret, st)
    | _ => .fail
  call f args H k :=
    match C.code f with
    | none => .fail
    | some fd => match fd.fn.body with
      | none => .fail
      | some c => .chk (Nat.ble args.length fd.fn.ntmps) (r.code fd c { e := keepF fd.keep (initE 0 args), H, m := H.length } fun p => match p.1 with
        | .ex _ => .fail
        | _ => (resA C p.2 fd.fn.results.toList).bind fun vs => k (tupA vs, p.2.H))

def evK : Nat → EvK β
  | 0 => { call := fun _ _ _ _ => .fail, code := fun _ _ _ _ => .fail }
  | n + 1 => stepK C (evK n)
end

section
variable {β : Type} {C : Ctx} {r : EvT} {rk : EvK β}

def Agree (r : EvT) (rk : EvK β) : Prop := (∀ f args H k, rk.call f args H k = (r.call f args H).bind k) ∧ ∀ fd c st k, rk.code fd c st k = (r.code fd c st).bind k

theorem callK_eq (h : Agree r rk) {draw : Bool} {H : Heap} {f : FuncId} {args : List AV} {k : AV × Heap → T β} : callK C rk draw H f args k = (callA C r draw H f args).bind k := by
  unfold callK callA
  cases C.sum f with
  | some F => simp only [T.chk_bind, T.bind_assoc]; rfl
  | none =>
    simp only
    cases freeL args with
    | true => simp only [h.1, T.bind_assoc, T.chk_bind]; rfl
    | false => cases draw with
      | true => rfl
      | false => simp only [h.1]

theorem evOpK_eq (h : Agree r rk) {draw : Bool} {e : Fr} {H : Heap} {o : Oper} {k : AV × Heap → T β} : evOpK C rk draw e H o k = (evOp C r draw e H o).bind k := by
  obtain ⟨dst, op, type, pos, after, guard⟩ := o
  unfold evOpK
  cases op <;> try rfl
  case makeFunc fn _ _ => cases fn <;> rfl
  rename_i c
  simp only
  cases hc : c.callee with
  | value g =>
    cases g <;> simp only [evOp, hc]
    case func f => exact callK_eq h
    all_goals
      generalize opnd C e _ = x
      cases x <;> first | rfl | exact callK_eq h
  | invoke a b => simp only [evOp, hc]
  | builtin b => cases b <;> simp only [evOp, hc]

theorem evOpsK_eq (h : Agree r rk) {draw : Bool} {all : Array Oper} : ∀ (l : List Oper) (e : Fr) (H : Heap) (k : Fr × Heap → T β), evOpsK C rk draw all l e H k = (evOps C r draw all l e H).bind k
  | [], _, _, _ => rfl
  | o :: rest, e, H, k => by
    simp only [evOpsK, evOps]
    cases hg : o.guard with
    | none => simp only [evOpK_eq h, T.bind_assoc, evOpsK_eq h rest]
    | some p =>
      obtain ⟨j, want⟩ := p
      simp only
      cases (all[j]?).bind (·.dst) with
      | none => rfl
      | some s =>
        simp only
        cases look e s with
        | bool b => cases want <;> simp only [evOpK_eq h, T.bind_assoc, evOpsK_eq h rest, T.bind]
        | tup l => cases l <;> first | rfl | exact evOpsK_eq h rest _ _ _
        | _ => rfl

theorem evOpXK_eq (h : Agree r rk) {e : Fr} {H : Heap} {slot : Nat} {o : Oper} {k : AV × Heap → T β} : evOpXK C rk e H slot o k = (evOpX C r e H slot o).bind k := by
  unfold evOpXK
  split
  · rename_i el ho
    unfold evOpX
    simp only [ho]
  · rename_i hno
    rw [evOpK_eq h]
    unfold evOpX
    split
    · rename_i el ho; exact absurd ho (hno el)
    · rfl

theorem evOpsDK_eq (h : Agree r rk) {n0 : Nat} {all : Array Oper} : ∀ (l : List Oper) (e : Fr) (H : Heap) (F : List FP) (k : Fr × Heap × List FP → T β), evOpsDK C rk n0 all l e H F k = (evOpsD C r n0 all l e H).bind fun q => k (q.1, q.2.1, F ++ q.2.2)
  | [], _, _, _, _ => by simp [evOpsDK, evOpsD, T.bind]
  | o :: rest, e, H, F, k => by
    simp only [evOpsDK, evOpsD]
    cases hg : o.guard with
    | none => simp only [evOpXK_eq h, T.bind_assoc, evOpsDK_eq h rest, withFP, T.bind, List.append_assoc, List.singleton_append]
    | some p =>
      obtain ⟨j, want⟩ := p
      simp only
      cases (all[j]?).bind (·.dst) with
      | none => rfl
      | some s =>
        simp only
        cases look e s with
        | bool b => cases want <;> simp only [evOpXK_eq h, T.bind_assoc, evOpsDK_eq h rest, withFP, T.bind, List.append_assoc, List.singleton_append]
        | tup l => cases l <;> first | rfl | simp only [evOpsDK_eq h rest, withFP, T.bind_assoc, T.bind, List.append_assoc, List.singleton_append]
        | _ => rfl

theorem evDrawK_eq (h : Agree r rk) {ops : Array Oper} {e : Fr} {H : Heap} {k : Fr × Heap → T β} : evDrawK C rk ops e H k = (evDraw C r ops e H).bind k := by
  unfold evDrawK evDraw
  simp only [evOpsDK_eq h, T.bind_assoc, T.chk_bind, List.nil_append]
  rfl

theorem agree_step (h : Agree r rk) : Agree (step C r) (stepK C rk) := by
  constructor
  · intro f args H k
    simp only [step, stepK]
    cases C.code f with
    | none => rfl
    | some fd =>
      simp only
      cases fd.fn.body with
      | none => rfl
      | some c =>
        simp only [T.chk_bind, h.2, T.bind_assoc]
        congr 2
        funext p
        cases p.1 <;> simp only [T.bind_assoc] <;> rfl
  · intro fd c st k
    simp only [step, stepK]
    cases c with
    | skip => rfl
    | region id ops draw => cases draw <;> simp only [evOpsK_eq h, evDrawK_eq h, T.bind_assoc] <;> rfl
    | seq a b =>
      simp only [h.2, T.bind_assoc]
      congr 1
      funext p
      cases p.1 <;> rfl
    | cond c a b =>
      simp only
      generalize opnd C st.e c = x
      cases x <;> first | rfl | (simp only [h.2]; rfl)
    | block id b =>
      simp only [h.2, T.bind_assoc]
      congr 1
      funext p
      cases p.1 with
      | ex j => simp only; cases Nat.beq j id <;> rfl
      | n => rfl
      | ret => rfl
    | loop b =>
      simp only [h.2, T.bind_assoc]
      congr 1
      funext p
      cases p.1 <;> rfl
    | exit id => rfl
    | ret => rfl
    | _ => rfl

theorem agree : ∀ n, Agree (ev C n) (evK (β := β) C n)
  | 0 => ⟨fun _ _ _ _ => rfl, fun _ _ _ _ => rfl⟩
  | n + 1 => agree_step (agree n)

/-- What is seen of a call that names no block of its caller's. -/
def T.obs {α : Type} : T α → Option α := T.run

/-- A call's tree, the result frozen. -/
def calls (C : Ctx) (n : Nat) (f : FuncId) (args : List AV) : T AV := (evK C n).call f args [] fun p => .leaf (frz p.2 p.1)

theorem calls_iso (hO : Ok C) {n : Nat} {f : FuncId} {args : List AV} {v : AV} (h : (calls C n f args).run = some v) : Iso C f args v := by
  unfold calls at h
  rw [(agree n).1] at h
  obtain ⟨p, h1, h2⟩ := T.of_bind h
  cases Option.some.inj h2
  exact (iso_sound hO h1).2
theorem calls_fn (hO : Ok C) {n : Nat} {f : FuncId} {args : List AV} {v : AV} (h : (calls C n f args).run = some v) : FnOk C f := by
  unfold calls at h
  rw [(agree n).1] at h
  obtain ⟨p, h1, h2⟩ := T.of_bind h
  exact (iso_sound hO h1).1

/-- A context with more summaries. -/
def withSum (C : Ctx) (l : List (Nat × (List AV → T AV))) : Ctx := { C with sum := fun f => match sumAt l f with | some F => some F | none => C.sum f }

theorem ok_with (hO : Ok C) {l : List (Nat × (List AV → T AV))} (h : AllL (SumAt C) l) : Ok (withSum C l) := by
  refine ⟨hO.ty, hO.eq, hO.code, fun f F args v hf hr => ?_, hO.mixed⟩
  have hf' : (match sumAt l f with | some F => some F | none => C.sum f) = some F := hf
  split at hf'
  · rename_i F' hF'
    cases Option.some.inj hf'
    obtain ⟨h1, h2⟩ := sumAt_all h f F hF'
    exact ⟨h1.at rfl, (h2 args v hr).at rfl rfl⟩
  · obtain ⟨h1, h2⟩ := hO.sum f F args v hf' hr
    exact ⟨h1.at rfl, h2.at rfl rfl⟩

theorem sum_of_run (hO : Ok C) {n : Nat} {f : FuncId} {F : List AV → T AV} (hf : FnOk C f) (h : ∀ args v, (F args).run = some v → (calls C n f args).run = some v) : SumAt C (f, F) :=
  ⟨hf, fun args v hr => calls_iso hO (h args v hr)⟩
end
end Go.Ev
