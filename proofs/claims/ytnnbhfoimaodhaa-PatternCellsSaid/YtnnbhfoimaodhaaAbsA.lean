/-
  The abstract machine, part A: abstract values, states, and what one operation of GoSem's code does to them.
-/
import Derived.Calls
import Derived.Orders
namespace Go.Abs

/-- Values without references: their memory, if they have any, is never written again. -/
inductive FV where
  | bool (b : Bool)
  | int (k : IntKind) (n : Int)
  | str (s : List UInt8)
  | nilp
  | nils
  | nilm
  | nilf
  | nili
  | fn (f : Nat)
  | sl (xs : List FV)
  | agg (cs : List FV)
  | iface (t : Nat) (v : FV)
  deriving Inhabited

/-- Abstract values: pure ones, and references into the state. -/
inductive AV where
  | c (v : FV)
  | ref (b off : Nat)
  | fref (e : FV) (off : Nat)
  | gref (g : Nat)
  | sl (b off len s : Nat) (full : Bool)
  | fz (tag : Nat) (xs : List FV)
  | map (b : Nat)
  | iter (b : Nat)
  | clo (f : Nat) (first captured : List AV)
  | iface (t : Nat) (v : AV)
  | agg (cs : List AV)
  | tup (vs : List AV)
  | undef
  deriving Inhabited

def FV.cells : FV → List FV
  | .agg cs => cs
  | v => [v]

def AV.cells : AV → List AV
  | .c v => v.cells.map .c
  | .agg cs => cs
  | v => [v]

def allPure : List AV → Option (List FV)
  | [] => some []
  | .c v :: r =>
    match allPure r with
    | some l => some (v :: l)
    | none => none
  | _ :: _ => none

def mkAgg (cs : List AV) : AV :=
  match allPure cs with
  | some l => .c (.agg l)
  | none => .agg cs

/-- A constant's cell. -/
def FV.ofScalar : Value → Option FV
  | .bool b => some (.bool b)
  | .int k n => some (.int k n)
  | .string s => some (.str s.data.toList)
  | .pointer none => some .nilp
  | .slice none 0 0 => some .nils
  | .map none => some .nilm
  | .nilFunc => some .nilf
  | .nilIface => some .nili
  | _ => none

def FV.ofScalars : List Value → Option (List FV)
  | [] => some []
  | v :: r =>
    match FV.ofScalar v, FV.ofScalars r with
    | some x, some l => some (x :: l)
    | _, _ => none

def FV.ofValue : Value → Option FV
  | .agg cs =>
    match FV.ofScalars cs.toList with
    | some l => some (.agg l)
    | none => none
  | v => FV.ofScalar v

/-! ### The frame's slots -/
def Env := Nat → AV

def Env.get (e : Env) (t : Nat) : AV := e t

def Env.set (e : Env) (t : Nat) (v : AV) : Env := fun u => bif Nat.beq t u then v else e u

theorem beq_ne {a b : Nat} (h : a ≠ b) : Nat.beq a b = false := Bool.eq_false_iff.2 fun h' => h (Nat.eq_of_beq_eq_true h')

theorem Env.get_set (e : Env) (t u : Nat) (v : AV) : (e.set t v).get u = if t = u then v else e.get u := by
  by_cases h : t = u
  · simp [Env.set, Env.get, h]
  · simp [Env.set, Env.get, h, beq_ne h]

/-! ### The state -/
inductive Ob where
  /-- a row of cells: the first 'ro' may not be written; 'T' the element type -/
  | blk (cells : List AV) (ro : Nat) (T : TypeId)
  /-- entries, the numbers under which they came, the number that comes next -/
  | map (ents : List (FV × AV)) (born : List Nat) (clock : Nat)
  | siter (s : List UInt8) (pos : Nat)
  /-- a walk over a map: its number 'next' when the walk began, the entries that were met -/
  | miter (m : Nat) (clock : Nat) (seen : List Nat)
  | niter
  | dead
  deriving Inhabited

structure St where
  next : Nat
  get : Nat → Option Ob
  spare : List Nat
  dirty : List Nat

def St.put (S : St) (b : Nat) (o : Ob) : St := { S with get := fun x => bif Nat.beq b x then some o else S.get x }
def St.del (S : St) (b : Nat) : St := S.put b .dead
def St.new (S : St) (o : Ob) : St := { S with next := S.next + 1, get := fun x => bif Nat.beq S.next x then some o else S.get x }
def St.mark (S : St) (b : Nat) : St := { S with dirty := b :: S.dirty }
def St.take (S : St) (t : Nat) : St := { S with spare := S.spare.erase t }

/-- What an operation does to the state. -/
inductive Cmd where
  | new (o : Ob)
  | put (b : Nat) (o : Ob)
  | mark (b : Nat)
  | take (t : Nat)

def St.cmd (S : St) : Cmd → St
  | .new o => S.new o
  | .put b o => S.put b o
  | .mark b => S.mark b
  | .take t => S.take t

def St.run (S : St) : List Cmd → St
  | [] => S
  | c :: r => (S.cmd c).run r

theorem St.get_put (S : St) (b : Nat) (o : Ob) (b' : Nat) : (S.put b o).get b' = if b = b' then some o else S.get b' := by
  by_cases h : b = b'
  · simp [St.put, h]
  · simp [St.put, h, beq_ne h]

theorem St.get_new (S : St) (o : Ob) (b : Nat) : (S.new o).get b = if S.next = b then some o else S.get b := by
  by_cases h : S.next = b
  · simp [St.new, h]
  · simp [St.new, h, beq_ne h]

theorem St.get_mark (S : St) (b b' : Nat) : (S.mark b).get b' = S.get b' := rfl

/-! ### Operands, types -/
def opnd (env : Env) : Operand → Option AV
  | .tmp t => some (env.get t)
  | .const v =>
    match FV.ofValue v with
    | some x => some (.c x)
    | none => none
  | .global g => some (.gref g)
  | .func f => some (.c (.fn f))

def opnds (env : Env) : List Operand → Option (List AV)
  | [] => some []
  | x :: r =>
    match opnd env x, opnds env r with
    | some v, some l => some (v :: l)
    | _, _ => none

def isAggT (P : Program) (T : TypeId) : Option Bool :=
  match P.underlying T with
  | some (.struct _) => some true
  | some (.array _ _) => some true
  | some _ => some false
  | none => none

def szT (P : Program) (T : TypeId) : Option Nat :=
  match P.info? T with
  | some i => some i.size
  | none => none

def zeroT (P : Program) (T : TypeId) : Option FV :=
  match P.info? T with
  | some i =>
    match i.zero with
    | some v => FV.ofValue v
    | none => none
  | none => none

/-- The value of a type at an offset among cells. -/
def partOf (P : Program) (T : TypeId) (cs : List AV) (off : Nat) : Option AV :=
  match isAggT P T, szT P T with
  | some true, some n => bif Nat.ble (off + n) cs.length then some (mkAgg ((cs.drop off).take n)) else none
  | some false, some _ => cs[off]?
  | _, _ => none

def setRange (cs : List AV) (off : Nat) (vs : List AV) : List AV := cs.take off ++ vs ++ cs.drop (off + vs.length)

def elemT (P : Program) (T : TypeId) : Option TypeId :=
  match P.underlying T with
  | some (.slice e) => some e
  | _ => none

def fieldT (P : Program) (T : TypeId) (f : Nat) : Option (TypeId × Nat) :=
  match P.underlying T with
  | some (.struct fs) =>
    match fs[f]? with
    | some x => some (x.type, x.offset)
    | none => none
  | _ => none

def maxLenA : Nat := 140737488355328

end Go.Abs
