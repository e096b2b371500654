/- Evaluator over the model's Code: definitions. Abstract values, decision trees, one step of evaluation. -/
import Derived.Orders
import Derived.Tactics
import Derived.Below
namespace Go.Ev

inductive AV where
  | undef
  | bool (b : Bool)
  | int (k : IntKind) (n : Int)
  | str (s : List UInt8)
  | agg (l : List AV)
  | tup (l : List AV)
  | nilp
  | own (id off : Nat)
  | rp (l : List AV)
  | sl (sz id off len : Nat) (cap : Option Nat)
  | nils
  | ro (full : Bool) (len : Nat) (l : List AV)
  | fn (f : FuncId) (first caps : List AV)
  | nilf
  | nili
  | ifc (t : TypeId) (v : AV)
  deriving Inhabited

def AV.cells : AV → List AV
  | .agg l => l
  | v => [v]

/-- A decision tree: what is known only under tests. -/
inductive T (α : Type) where
  | leaf (a : α)
  | br (b : Bool) (x y : T α)
  | fail

def T.bind {α β : Type} : T α → (α → T β) → T β
  | .leaf a, k => k a
  | .br b x y, k => .br b (x.bind k) (y.bind k)
  | .fail, _ => .fail

def T.run {α : Type} : T α → Option α
  | .leaf a => some a
  | .br b x y => bif b then x.run else y.run
  | .fail => none

def T.chk {α : Type} (b : Bool) (t : T α) : T α := .br b t .fail

theorem T.run_bind {α β : Type} (t : T α) (k : α → T β) : (t.bind k).run = t.run.bind (fun a => (k a).run) := by
  induction t with
  | leaf a => rfl
  | br b x y hx hy => cases b <;> simp [T.bind, T.run, hx, hy]
  | fail => rfl

theorem T.of_bind {α β : Type} {t : T α} {k : α → T β} {r : β} (h : (t.bind k).run = some r) : ∃ a, t.run = some a ∧ (k a).run = some r := by
  rw [T.run_bind] at h
  cases ht : t.run with
  | none => simp [ht] at h
  | some a => exact ⟨a, rfl, by simpa [ht] using h⟩

theorem T.of_chk {α : Type} {b : Bool} {t : T α} {r : α} (h : (T.chk b t).run = some r) : b = true ∧ t.run = some r := by
  cases b
  · simp [T.chk, T.run] at h
  · exact ⟨rfl, h⟩

theorem T.of_br {α : Type} {b : Bool} {x y : T α} {r : α} (h : (T.br b x y).run = some r) : (b = true ∧ x.run = some r) ∨ (b = false ∧ y.run = some r) := by
  cases b
  · exact .inr ⟨rfl, h⟩
  · exact .inl ⟨rfl, h⟩

/-- A type's description, as far as it is wanted. -/
inductive D where
  | int (k : IntKind)
  | bool
  | string
  | ptr (e : TypeId)
  | slice (e : TypeId)
  | array (n : Nat) (e : TypeId)
  | struct (fs : List (Nat × TypeId))
  | func
  | iface
  | other
  deriving Inhabited

def D.of : TypeDesc → D
  | .bool => .bool
  | .int k => .int k
  | .string => .string
  | .pointer e => .ptr e
  | .slice e => .slice e
  | .array n e => .array n e
  | .struct fs => .struct (fs.toList.map fun f => (f.offset, f.type))
  | .func _ _ _ => .func
  | .interface _ => .iface
  | _ => .other

/-- What is known of a type: its description, its size in cells, the descriptions of its cells, its zero value's cells, bytes. -/
structure TI where
  desc : D
  size : Nat
  cds : List D
  zero : Option (List AV)
  bytes : Nat
  ok : Bool
  eq : Bool
  deriving Inhabited

structure Blk where
  ty : TypeId
  cells : List AV

abbrev Heap := List (Option Blk)
abbrev Fr := List (Tmp × AV)

structure FD where
  fn : Func
  keep : List Tmp
  ct : List Tmp := []

structure Ctx where
  P : Program
  code : FuncId → Option FD
  ty : TypeId → TI
  sum : FuncId → Option (List AV → T AV) := fun _ => none
  glob : Nat → Option (List AV) := fun _ => none

def look : Fr → Tmp → AV
  | [], _ => .undef
  | (s, v) :: r, t => bif Nat.beq s t then v else look r t

def ofV1 : Value → AV
  | .bool b => .bool b
  | .int k n => .int k n
  | .string s => .str s.data.toList
  | .pointer none => .nilp
  | .slice none 0 0 => .nils
  | .nilFunc => .nilf
  | .nilIface => .nili
  | _ => .undef

def ofV : Value → AV
  | .agg cs => .agg (cs.toList.map ofV1)
  | .tuple cs => .tup (cs.toList.map ofV1)
  | v => ofV1 v

def opnd (C : Ctx) (e : Fr) : Operand → AV
  | .tmp t => look e t
  | .const v => ofV v
  | .global g => match C.glob g with
    | some l => .rp l
    | none => .undef
  | .func f => .fn f [] []

def AV.isI (k : IntKind) : AV → Bool
  | .int k' _ => decide (k' = k)
  | _ => false
def AV.toI : AV → Int
  | .int _ n => n
  | _ => 0
def AV.isB : AV → Bool
  | .bool _ => true
  | _ => false
def AV.toB : AV → Bool
  | .bool b => b
  | _ => false
def AV.isS : AV → Bool
  | .str _ => true
  | _ => false
def AV.toS : AV → List UInt8
  | .str s => s
  | _ => []
def AV.isRo : AV → Bool
  | .ro .. => true
  | _ => false
def AV.roF : AV → Bool
  | .ro f _ _ => f
  | _ => false
def AV.roN : AV → Nat
  | .ro _ n _ => n
  | _ => 0
def AV.roL : AV → List AV
  | .ro _ _ l => l
  | _ => []
def AV.isU : AV → Bool
  | .undef => true
  | _ => false

/-- The value of one cell, its constructor laid open by its type. -/
def expose (d : D) (v : AV) : T AV :=
  match d with
  | .int k => .chk (v.isI k) (.leaf (.int k v.toI))
  | .bool => .chk v.isB (.leaf (.bool v.toB))
  | .string => .chk v.isS (.leaf (.str v.toS))
  | .slice _ => .br v.isRo (.leaf (.ro v.roF v.roN v.roL)) (.chk (!v.isU) (.leaf v))
  | _ => .chk (!v.isU) (.leaf v)

def exposeL : List D → List AV → Nat → T (List AV)
  | [], _, _ => .leaf []
  | d :: ds, l, i => (expose d (l.getD i .undef)).bind fun v => (exposeL ds l (i + 1)).bind fun vs => .leaf (v :: vs)

def isAggD : D → Bool
  | .struct _ | .array _ _ => true
  | _ => false

/-- The value of a type out of a row of cells, from place 'i' on. -/
def getT (ti : TI) (l : List AV) (i : Nat) : T AV :=
  match isAggD ti.desc with
  | true => .chk (ti.ok && Nat.beq ti.cds.length ti.size && Nat.ble (i + ti.size) l.length) ((exposeL ti.cds l i).bind fun vs => .leaf (.agg vs))
  | false => .chk (ti.ok && Nat.ble (i + 1) l.length) (expose ti.desc (l.getD i .undef))

def setL {α : Type} : List α → Nat → List α → List α
  | l, _, [] => l
  | l, i, v :: r => setL (l.set i v) (i + 1) r

def hget (H : Heap) (id : Nat) : Option Blk :=
  match H[id]? with
  | some (some b) => some b
  | _ => none

def loadA (C : Ctx) (H : Heap) (t : TypeId) : AV → T AV
  | .own id off => match hget H id with
    | some b => getT (C.ty t) b.cells off
    | none => .fail
  | .rp l => getT (C.ty t) l 0
  | _ => .fail

/-- A value that one cell holds. -/
def AV.one : AV → Bool
  | .undef | .agg _ | .tup _ => false
  | _ => true
def oneL : List AV → Bool
  | [] => true
  | v :: l => v.one && oneL l

def storeA (C : Ctx) (H : Heap) (t : TypeId) (p v : AV) : T Heap :=
  match p with
  | .own id off => match hget H id with
    | some b => .chk ((C.ty t).ok && Nat.beq v.cells.length (C.ty t).size && Nat.ble (off + v.cells.length) b.cells.length && oneL v.cells) (.leaf (H.set id (some { b with cells := setL b.cells off v.cells })))
    | none => .fail
  | _ => .fail

def arith (op : BinOp) (k : IntKind) (a b : Int) : T AV :=
  match op with
  | .add => .leaf (.int k (k.wrap (a + b)))
  | .sub => .leaf (.int k (k.wrap (a - b)))
  | .mul => .leaf (.int k (k.wrap (a * b)))
  | .quo => .chk (!(decide (b = 0))) (.leaf (.int k (k.wrap (a.tdiv b))))
  | .rem => .chk (!(decide (b = 0))) (.leaf (.int k (a.tmod b)))
  | .and => .leaf (.int k (k.wrap (BitVec.ofInt k.bits a &&& BitVec.ofInt k.bits b).toNat))
  | .or => .leaf (.int k (k.wrap (BitVec.ofInt k.bits a ||| BitVec.ofInt k.bits b).toNat))
  | .xor => .leaf (.int k (k.wrap (BitVec.ofInt k.bits a ^^^ BitVec.ofInt k.bits b).toNat))
  | .andNot => .leaf (.int k (k.wrap (BitVec.ofInt k.bits a &&& ~~~BitVec.ofInt k.bits b).toNat))
  | .eql => .leaf (.bool (a == b))
  | .neq => .leaf (.bool (a != b))
  | .lss => .leaf (.bool (decide (a < b)))
  | .leq => .leaf (.bool (decide (a ≤ b)))
  | .gtr => .leaf (.bool (decide (a > b)))
  | .geq => .leaf (.bool (decide (a ≥ b)))
  | _ => .fail

def shiftA (op : BinOp) (k : IntKind) (a b : Int) : T AV :=
  match op with
  | .shl => .chk (decide (0 ≤ b)) (.leaf (.int k (k.wrap (a * 2 ^ (min b.toNat k.bits)))))
  | .shr => .chk (decide (0 ≤ b)) (.leaf (.int k (a.fdiv (2 ^ (min b.toNat k.bits)))))
  | _ => .fail

def strOp (op : BinOp) (s t : List UInt8) : T AV :=
  match op with
  | .add => .chk (Nat.ble (s.length + t.length) 9223372036854775807) (.leaf (.str (s ++ t)))
  | .eql => .leaf (.bool (s == t))
  | .neq => .leaf (.bool (!(s == t)))
  | .lss => .leaf (.bool (Op.bytesLess s t))
  | .leq => .leaf (.bool (Op.bytesLess s t || s == t))
  | .gtr => .leaf (.bool (!(Op.bytesLess s t || s == t)))
  | .geq => .leaf (.bool (!(Op.bytesLess s t)))
  | _ => .fail

/-- '==' of two cells of numbers, bools, strings. -/
def eq1 : AV → AV → Option Bool
  | .bool a, .bool b => some (a == b)
  | .int k a, .int k' b => bif decide (k = k') then some (a == b) else none
  | .str a, .str b => some (a == b)
  | _, _ => none

/-- '==' of two cells, by their type; 'k': one of them is a constant. -/
def eqT (k : Bool) : D → AV → AV → Option Bool
  | .bool, .bool a, .bool b => some (a == b)
  | .ptr _, .nilp, .nilp => some true
  | .ptr _, .nilp, .own _ _ => some false
  | .ptr _, .nilp, .rp _ => some false
  | .ptr _, .own _ _, .nilp => some false
  | .ptr _, .rp _, .nilp => some false
  | .slice _, .nils, .nils => some true
  | .slice _, .nils, .sl .. => some false
  | .slice _, .nils, .ro .. => some false
  | .slice _, .sl .., .nils => some false
  | .slice _, .ro .., .nils => some false
  | .func, .nilf, .nilf => some true
  | .func, .nilf, .fn .. => some false
  | .func, .fn .., .nilf => some false
  | .iface, .nili, .nili => bif k then some true else none
  | .iface, .nili, .ifc .. => some false
  | .iface, .ifc .., .nili => some false
  | _, _, _ => none

def isScalD : D → Bool
  | .int _ | .bool | .string => true
  | _ => false

def eqL : List AV → List AV → Option Bool
  | [], [] => some true
  | a :: l, b :: l' => match eq1 a b with
    | some x => match eqL l l' with
      | some y => some (x && y)
      | none => none
    | none => none
  | _, _ => none

def tyc : D → AV → Bool
  | .int k, v => v.isI k
  | .bool, v => v.isB
  | .string, v => v.isS
  | _, _ => false
def tyL : List D → List AV → Bool
  | [], [] => true
  | d :: ds, v :: l => tyc d v && tyL ds l
  | _, _ => false

def notB (neq : Bool) (b : Bool) : Bool := bif neq then !b else b

def binA (C : Ctx) (op : BinOp) (t : TypeId) (x y : AV) : T AV :=
  match x, y with
  | .int k a, .int k' b => match op with
    | .shl => shiftA .shl k a b
    | .shr => shiftA .shr k a b
    | op => .chk (decide (k = k')) (arith op k a b)
  | .str a, .str b => strOp op a b
  | .bool a, .bool b => match op with
    | .eql => .leaf (.bool (a == b))
    | .neq => .leaf (.bool (!(a == b)))
    | _ => .fail
  | .agg l, .agg l' => .chk ((C.ty t).ok && (C.ty t).eq && tyL (C.ty t).cds l && tyL (C.ty t).cds l') (match op, eqL l l' with
    | .eql, some b => .leaf (.bool b)
    | .neq, some b => .leaf (.bool (!b))
    | _, _ => .fail)
  | _, _ => .fail
end Go.Ev
