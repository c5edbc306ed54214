/-
  An abstract machine over the model, first half: each operation on abstract states (blocks, rows and cells of which all is known, or which are frozen) is sound for the model. No condition.
-/
import Derived.Calls
import Derived.Orders
import Derived.Laws.Sem
import Derived.Laws.Strings
import Derived.Laws.StructEq
import Derived.Laws.Append
import Derived.Lib.ConvBytes
import Derived.Laws.BytesArg
import Derived.IntWalk
set_option linter.unusedVariables false
set_option linter.unusedSimpArgs false
namespace Go.Abs
inductive FV where
  | bool (b : Bool)
  | int (k : IntKind) (n : Int)
  | str (s : List UInt8)
  | nilp
  | nils
  | nilm
  | nilf
  | nili
  | fn (f : Nat)
  | sl (xs : List FV)
  | agg (cs : List FV)
  | iface (t : Nat) (v : FV)
  deriving Inhabited
inductive AV where
  | c (v : FV)
  | ref (b off : Nat)
  | fref (e : FV) (off : Nat)
  | gref (g : Nat)
  | sl (b off len s : Nat) (full : Bool)
  | fz (tag : Nat) (xs : List FV)
  | map (b : Nat)
  | iter (b : Nat)
  | clo (f : Nat) (first captured : List AV)
  | iface (t : Nat) (v : AV)
  | agg (cs : List AV)
  | tup (vs : List AV)
  | undef
  deriving Inhabited
def FV.cells : FV → List FV
  | .agg cs => cs
  | v => [v]
def AV.cells : AV → List AV
  | .c v => v.cells.map .c
  | .agg cs => cs
  | v => [v]
def allPure : List AV → Option (List FV)
  | [] => some []
  | .c v :: r =>
    match allPure r with
    | some l => some (v :: l)
    | none => none
  | _ :: _ => none
def mkAgg (cs : List AV) : AV :=
  match allPure cs with
  | some l => .c (.agg l)
  | none => .agg cs
def FV.ofScalar : Value → Option FV
  | .bool b => some (.bool b)
  | .int k n => some (.int k n)
  | .string s => some (.str s.data.toList)
  | .pointer none => some .nilp
  | .slice none 0 0 => some .nils
  | .map none => some .nilm
  | .nilFunc => some .nilf
  | .nilIface => some .nili
  | _ => none
def FV.ofScalars : List Value → Option (List FV)
  | [] => some []
  | v :: r =>
    match FV.ofScalar v, FV.ofScalars r with
    | some x, some l => some (x :: l)
    | _, _ => none
def FV.ofValue : Value → Option FV
  | .agg cs =>
    match FV.ofScalars cs.toList with
    | some l => some (.agg l)
    | none => none
  | v => FV.ofScalar v
def Env := Nat → AV
def Env.get (e : Env) (t : Nat) : AV := e t
def Env.set (e : Env) (t : Nat) (v : AV) : Env := fun u => bif Nat.beq t u then v else e u
theorem beq_ne {a b : Nat} (h : a ≠ b) : Nat.beq a b = false := Bool.eq_false_iff.2 fun h' => h (Nat.eq_of_beq_eq_true h')
theorem Env.get_set (e : Env) (t u : Nat) (v : AV) : (e.set t v).get u = if t = u then v else e.get u := by
  by_cases h : t = u
  · simp [Env.set, Env.get, h]
  · simp [Env.set, Env.get, h, beq_ne h]
inductive Ob where
  | blk (cells : List AV) (ro : Nat) (T : TypeId)
  | map (ents : List (FV × AV)) (born : List Nat) (clock : Nat)
  | siter (s : List UInt8) (pos : Nat)
  | miter (m : Nat) (clock : Nat) (seen : List Nat)
  | niter
  | dead
  deriving Inhabited
structure St where
  next : Nat
  get : Nat → Option Ob
  spare : List Nat
  known : List (Nat × List Value)
def St.put (S : St) (b : Nat) (o : Ob) : St := { S with get := fun x => bif Nat.beq b x then some o else S.get x }
def St.del (S : St) (b : Nat) : St := S.put b .dead
def St.new (S : St) (o : Ob) : St := { S with next := S.next + 1, get := fun x => bif Nat.beq S.next x then some o else S.get x }
def St.mark (S : St) (_ : Nat) : St := S
def St.take (S : St) (t : Nat) : St := { S with spare := S.spare.erase t }
inductive Cmd where
  | new (o : Ob)
  | put (b : Nat) (o : Ob)
  | mark (b : Nat)
  | take (t : Nat)
def St.cmd (S : St) : Cmd → St
  | .new o => S.new o
  | .put b o => S.put b o
  | .mark b => S.mark b
  | .take t => S.take t
def St.run (S : St) : List Cmd → St
  | [] => S
  | c :: r => (S.cmd c).run r
theorem St.get_put (S : St) (b : Nat) (o : Ob) (b' : Nat) : (S.put b o).get b' = if b = b' then some o else S.get b' := by
  by_cases h : b = b'
  · simp [St.put, h]
  · simp [St.put, h, beq_ne h]
theorem St.get_new (S : St) (o : Ob) (b : Nat) : (S.new o).get b = if S.next = b then some o else S.get b := by
  by_cases h : S.next = b
  · simp [St.new, h]
  · simp [St.new, h, beq_ne h]
def opnd (env : Env) : Operand → Option AV
  | .tmp t => some (env.get t)
  | .const v =>
    match FV.ofValue v with
    | some x => some (.c x)
    | none => none
  | .global g => some (.gref g)
  | .func f => some (.c (.fn f))
def opnds (env : Env) : List Operand → Option (List AV)
  | [] => some []
  | x :: r =>
    match opnd env x, opnds env r with
    | some v, some l => some (v :: l)
    | _, _ => none
def isAggT (P : Program) (T : TypeId) : Option Bool :=
  match P.underlying T with
  | some (.struct _) => some true
  | some (.array _ _) => some true
  | some _ => some false
  | none => none
def szT (P : Program) (T : TypeId) : Option Nat :=
  match P.info? T with
  | some i => some i.size
  | none => none
def zeroT (P : Program) (T : TypeId) : Option FV :=
  match P.info? T with
  | some i =>
    match i.zero with
    | some v => FV.ofValue v
    | none => none
  | none => none
def partOf (P : Program) (T : TypeId) (cs : List AV) (off : Nat) : Option AV :=
  match isAggT P T, szT P T with
  | some true, some n => bif Nat.ble (off + n) cs.length then some (mkAgg ((cs.drop off).take n)) else none
  | some false, some _ => cs[off]?
  | _, _ => none
def setRange (cs : List AV) (off : Nat) (vs : List AV) : List AV := cs.take off ++ vs ++ cs.drop (off + vs.length)
def elemT (P : Program) (T : TypeId) : Option TypeId :=
  match P.underlying T with
  | some (.slice e) => some e
  | _ => none
def fieldT (P : Program) (T : TypeId) (f : Nat) : Option (TypeId × Nat) :=
  match P.underlying T with
  | some (.struct fs) =>
    match fs[f]? with
    | some x => some (x.type, x.offset)
    | none => none
  | _ => none
def maxLenA : Nat := 140737488355328
end Go.Abs

namespace Go.Abs
inductive Res where
  | val (v : AV) (cs : List Cmd)
  | skip (cs : List Cmd)
  | call (f : FuncId) (args : List AV)
  | pan (v : AV)
  | any (l : List (AV × List Cmd))
def fpart (P : Program) (T : TypeId) (cs : List FV) (off : Nat) : Option FV :=
  match isAggT P T, szT P T with
  | some true, some n => bif Nat.ble (off + n) cs.length then some (.agg ((cs.drop off).take n)) else none
  | some false, some _ => cs[off]?
  | _, _ => none
def feqFields (P : Program) (eq : TypeId → FV → FV → Option Bool) (xs ys : List FV) : List Field → Option Bool
  | [] => some true
  | f :: r =>
    if f.name = "_" then feqFields P eq xs ys r else
    match fpart P f.type xs f.offset, fpart P f.type ys f.offset with
    | some x, some y =>
      match eq f.type x y with
      | some true => feqFields P eq xs ys r
      | some false => some false
      | none => none
    | _, _ => none
def feq (P : Program) : Nat → TypeId → FV → FV → Option Bool
  | 0, _, _, _ => none
  | d + 1, t, x, y =>
    match P.underlying t with
    | some .bool =>
      match x, y with
      | .bool a, .bool b => some (a == b)
      | _, _ => none
    | some (.int _) =>
      match x, y with
      | .int k a, .int k' b => if k = k' then some (a == b) else none
      | _, _ => none
    | some .string =>
      match x, y with
      | .str a, .str b => some (a == b)
      | _, _ => none
    | some (.struct fs) =>
      match x, y with
      | .agg xs, .agg ys => if P.stoodInHeld t = true then none else feqFields P (feq P d) xs ys fs.toList
      | _, _ => none
    | _ => none
def AV.isRef : AV → Bool
  | .ref _ _ | .fref _ _ | .gref _ => true
  | _ => false
def AV.isRow : AV → Bool
  | .sl _ _ _ _ _ | .fz _ _ | .c (.sl (_ :: _)) => true
  | _ => false
def aEq (P : Program) (t : TypeId) (x y : AV) : Option Bool :=
  match x, y with
  | .c (.agg a), .c (.agg b) => if P.eqGuardType P.depth t = true then none else feq P Op.maxDepth t (.agg a) (.agg b)
  | .c (.bool a), .c (.bool b) => feq P Op.maxDepth t (.bool a) (.bool b)
  | .c .nilp, .c .nilp => (match P.underlying t with | some (.pointer _) => some true | _ => none)
  | .ref b o, .ref b' o' => (match P.underlying t with | some (.pointer e) => if b = b' ∧ o = o' ∧ (P.info? e).isSome = true then some true else none | _ => none)
  | .ref b o, .c .nilp | .c .nilp, .ref b o => (match P.underlying t with | some (.pointer _) => some false | _ => none)
  | .c .nils, .c .nils => (match P.underlying t with | some (.slice _) => some true | _ => none)
  | .c .nilm, .c .nilm => (match P.underlying t with | some (.map _ _) => some true | _ => none)
  | .map _, .c .nilm | .c .nilm, .map _ => (match P.underlying t with | some (.map _ _) => some false | _ => none)
  | .c .nili, .c .nili => (match P.underlying t with | some (.interface ms) => if ms.isEmpty = true then some true else none | _ => none)
  | .c (.iface _ _), .c .nili | .iface _ _, .c .nili => (match P.underlying t with | some (.interface _) => some false | _ => none)
  | .c .nili, .c (.iface _ _) | .c .nili, .iface _ _ => (match P.underlying t with | some (.interface _) => some false | _ => none)
  | x, .c .nils => if x.isRow = true then (match P.underlying t with | some (.slice _) => some false | _ => none) else none
  | _, _ => none
def aInt (op : BinOp) (k : IntKind) (a : Int) (k' : IntKind) (b : Int) : Option FV :=
  match op with
  | .shl => if b < 0 then none else some (.int k (k.wrap (a * 2 ^ (min b.toNat k.bits))))
  | .shr => if b < 0 then none else some (.int k (a.fdiv (2 ^ (min b.toNat k.bits))))
  | op =>
    if k ≠ k' then none else
    match op with
    | .add => some (.int k (k.wrap (a + b)))
    | .sub => some (.int k (k.wrap (a - b)))
    | .mul => some (.int k (k.wrap (a * b)))
    | .quo => if b = 0 then none else some (.int k (k.wrap (a.tdiv b)))
    | .rem => if b = 0 then none else some (.int k (a.tmod b))
    | .and => some (.int k (k.wrap (BitVec.ofInt k.bits a &&& BitVec.ofInt k.bits b).toNat))
    | .or => some (.int k (k.wrap (BitVec.ofInt k.bits a ||| BitVec.ofInt k.bits b).toNat))
    | .xor => some (.int k (k.wrap (BitVec.ofInt k.bits a ^^^ BitVec.ofInt k.bits b).toNat))
    | .andNot => some (.int k (k.wrap (BitVec.ofInt k.bits a &&& ~~~(BitVec.ofInt k.bits b)).toNat))
    | .eql => some (.bool (a == b))
    | .neq => some (.bool (a != b))
    | .lss => some (.bool (decide (a < b)))
    | .leq => some (.bool (decide (a ≤ b)))
    | .gtr => some (.bool (decide (a > b)))
    | .geq => some (.bool (decide (a ≥ b)))
    | _ => none
def aStr (op : BinOp) (a b : List UInt8) : Option FV :=
  match op with
  | .add => if a.length + b.length ≤ maxLenA then some (.str (a ++ b)) else none
  | .eql => some (.bool (a == b))
  | .neq => some (.bool (a != b))
  | .lss => some (.bool (Op.bytesLess a b))
  | .leq => some (.bool (Op.bytesLess a b || a == b))
  | .gtr => some (.bool !(Op.bytesLess a b || a == b))
  | .geq => some (.bool !(Op.bytesLess a b))
  | _ => none
def aBin (P : Program) (op : BinOp) (t : TypeId) (x y : AV) : Option AV :=
  match x, y with
  | .c (.int k a), .c (.int k' b) => (aInt op k a k' b).map .c
  | .c (.str a), .c (.str b) => (aStr op a b).map .c
  | x, y =>
    match op with
    | .eql => (aEq P t x y).map fun b => .c (.bool b)
    | .neq => (aEq P t x y).map fun b => .c (.bool !b)
    | _ => none
def aUn (op : UnOp) (x : AV) : Option AV :=
  match op, x with
  | .not, .c (.bool b) => some (.c (.bool !b))
  | .neg, .c (.int k n) => some (.c (.int k (k.wrap (0 - n))))
  | _, _ => none
def flat : List FV → List AV
  | [] => []
  | x :: r => x.cells.map .c ++ flat r
def allSize (s : Nat) : List FV → Bool
  | [] => true
  | x :: r => Nat.beq x.cells.length s && allSize s r
def rowCells (s : Nat) (S : St) : AV → Option (List AV × Nat)
  | .c .nils => some ([], 0)
  | .c (.sl xs) => if allSize s xs = true then some (flat xs, xs.length) else none
  | .fz _ xs => if allSize s xs = true then some (flat xs, xs.length) else none
  | .sl b off len s' _ =>
    match S.get b with
    | some (.blk cs _ _) => if s' = s ∧ off + len * s ≤ cs.length then some ((cs.drop off).take (len * s), len) else none
    | _ => none
  | _ => none
def bytesOf : List AV → Option (List UInt8)
  | [] => some []
  | .c (.int .u8 n) :: r =>
    match bytesOf r with
    | some l => some (UInt8.ofNat n.toNat :: l)
    | none => none
  | _ => none
def byteCells (s : List UInt8) : List AV := s.map fun b => .c (.int .u8 b.toNat)
def lenA (P : Program) (t : TypeId) (S : St) (x : AV) : Option Nat :=
  match P.underlying t with
  | some .string => (match x with | .c (.str s) => some s.length | _ => none)
  | some (.array n _) => some n
  | some (.slice _) =>
    match x with
    | .c .nils => some 0
    | .c (.sl xs) => some xs.length
    | .fz _ xs => some xs.length
    | .sl _ _ len _ _ => some len
    | _ => none
  | some (.map _ _) =>
    match x with
    | .c .nilm => some 0
    | .map b => (match S.get b with | some (.map es _ _) => some es.length | _ => none)
    | _ => none
  | _ => none
def aAppend (P : Program) (t t' : TypeId) (x y : AV) (S : St) : Option (AV × List Cmd) :=
  match P.underlying t with
  | some (.slice e) =>
    match P.info? e, (match P.underlying t' with | some (.int _) => none | some .string => some true | some (.slice _) => some false | _ => none) with
    | some i, some str =>
      match (bif str then (match y with | .c (.str l) => some (byteCells l, l.length) | _ => none) else rowCells i.size S y) with
      | some (new, k) =>
        if i.bytes = 0 ∨ i.size = 0 ∨ (i.zero.map (·.cells.size)) ≠ some i.size ∨ k * i.size ≠ new.length then none else
        match x with
        | .c .nils =>
          if k = 0 then some (.c .nils, []) else
          if k * i.bytes ≤ maxLenA then some (.sl S.next 0 k i.size false, [.new (.blk new 0 e)]) else none
        | .fz tag xs =>
          if k = 0 then some (.fz tag xs, []) else none
        | .sl b off len s full =>
          if k = 0 then some (.sl b off len s full, []) else
          match S.get b with
          | some (.blk cs ro T) =>
            if s = i.size ∧ (len + k) * i.bytes ≤ maxLenA ∧ off + len * s ≤ cs.length ∧ T = e then
              if full = true then some (.sl S.next 0 (len + k) s false, [.new (.blk ((cs.drop off).take (len * s) ++ new) 0 e)])
              else if ro ≤ off + len * s then
                if off + (len + k) * s ≤ cs.length then
                  some (.sl b off (len + k) s false, [.put b (.blk (setRange cs (off + len * s) new) ro T)])
                else if off = 0 then some (.sl S.next 0 (len + k) s false, [.put b .dead, .new (.blk ((cs.drop off).take (len * s) ++ new) (ro - off) e)])
                else none
              else none
            else none
          | _ => none
        | _ => none
      | none => none
    | _, _ => none
  | _ => none
def aCopy (P : Program) (t t' : TypeId) (x y : AV) (S : St) : Option (AV × List Cmd) :=
  match P.underlying t with
  | some (.slice e) =>
    match szT P e, P.underlying t' with
    | some s, some u =>
      match (match u with | .string => (match y with | .c (.str l) => some (byteCells l, l.length) | _ => none) | _ => rowCells s S y) with
      | some (new, k) =>
        match x with
        | .sl b off len s' _ =>
          match S.get b with
          | some (.blk cs ro T) =>
            let n := min k len
            if s' = s ∧ off + len * s ≤ cs.length ∧ ro ≤ off ∧ k * s = new.length then
              some (.c (.int .i64 n), [.put b (.blk (setRange cs off (new.take (n * s))) ro T)])
            else none
          | _ => none
        | _ => none
      | none => none
    | _, _ => none
  | _ => none
def boundA (dflt : Nat) : Option AV → Option Nat
  | none => some dflt
  | some (.c (.int _ i)) => if 0 ≤ i then some i.toNat else none
  | _ => none
def aSlice (P : Program) (t : TypeId) (x : AV) (lo hi mx : Option AV) (S : St) : Option AV :=
  match P.underlying t with
  | some .string =>
    match x, mx with
    | .c (.str s), none =>
      match boundA 0 lo, boundA s.length hi with
      | some l, some h => if l ≤ h ∧ h ≤ s.length then some (.c (.str ((s.take h).drop l))) else none
      | _, _ => none
    | _, _ => none
  | some (.slice e) =>
    match szT P e with
    | some s =>
      match x with
      | .c .nils =>
        match boundA 0 lo, boundA 0 hi, mx with
        | some 0, some 0, none => some (.c .nils)
        | _, _, _ => none
      | .c (.sl xs) =>
        match boundA 0 lo, boundA xs.length hi, mx with
        | some l, some h, none => if l ≤ h ∧ h ≤ xs.length ∧ allSize s xs = true then some (.c (.sl ((xs.take h).drop l))) else none
        | _, _, _ => none
      | .fz tag xs =>
        match boundA 0 lo, boundA xs.length hi, mx with
        | some l, some h, none => if l ≤ h ∧ h ≤ xs.length ∧ allSize s xs = true then some (.c (.sl ((xs.take h).drop l))) else none
        | _, _, _ => none
      | .sl b off len s' full =>
        match S.get b with
        | some (.blk cs _ _) =>
          match boundA 0 lo, boundA len hi with
          | some l, some h =>
            if s' = s ∧ s ≠ 0 ∧ l ≤ h ∧ (full = true → h ≤ len) ∧ (full = false → off + h * s ≤ cs.length) then
              match mx with
              | none =>
                if full = true ∧ h ≠ len then
                  if cs.length ≤ off + len * s then some (.sl b (off + l * s) (h - l) s false) else none
                else some (.sl b (off + l * s) (h - l) s full)
              | some (.c (.int _ m)) => if m = (h : Int) ∧ hi.isSome = true then some (.sl b (off + l * s) (h - l) s true) else none
              | _ => none
            else none
          | _, _ => none
        | _ => none
      | _ => none
    | none => none
  | _ => none
def aIndexAddr (P : Program) (t : TypeId) (x : AV) (i : AV) : Option AV :=
  match i with
  | .c (.int _ i) =>
    if i < 0 then none else
    match P.underlying t with
    | some (.slice e) =>
      match szT P e with
      | some s =>
        match x with
        | .c (.sl xs) => if i.toNat < xs.length ∧ allSize s xs = true then (xs[i.toNat]?).map fun e => .fref e 0 else none
        | .fz _ xs => if i.toNat < xs.length ∧ allSize s xs = true then (xs[i.toNat]?).map fun e => .fref e 0 else none
        | .sl b off len s' _ => if s' = s ∧ i.toNat < len then some (.ref b (off + i.toNat * s)) else none
        | _ => none
      | none => none
    | some (.array n e) =>
      match szT P e with
      | some s =>
        if i.toNat < n then
          match x with
          | .ref b off => some (.ref b (off + i.toNat * s))
          | .fref e off => some (.fref e (off + i.toNat * s))
          | _ => none
        else none
      | none => none
    | _ => none
  | _ => none
def aIndex (P : Program) (t : TypeId) (x : AV) (i : AV) : Option AV :=
  match i with
  | .c (.int _ i) =>
    if i < 0 then none else
    match P.underlying t with
    | some .string =>
      match x with
      | .c (.str s) => (s[i.toNat]?).map fun b => .c (.int .u8 b.toNat)
      | _ => none
    | some (.array n e) =>
      match szT P e, x with
      | some s, .c (.agg cs) => if i.toNat < n then partOf P e (cs.map .c) (i.toNat * s) else none
      | some s, .agg cs => if i.toNat < n then partOf P e cs (i.toNat * s) else none
      | _, _ => none
    | _ => none
  | _ => none
def aLoad (P : Program) (t : TypeId) (a : AV) (S : St) : Option AV :=
  match a with
  | .ref b off =>
    match S.get b with
    | some (.blk cs _ _) => partOf P t cs off
    | _ => none
  | .fref e off => partOf P t (e.cells.map .c) off
  | _ => none
def AV.scalar : AV → Bool
  | .c (.agg _) | .agg _ | .tup _ | .undef => false
  | _ => true
def AV.loose : AV → Bool
  | .sl _ _ _ _ _ => true
  | .agg cs => cs.any fun | .sl _ _ _ _ _ => true | _ => false
  | _ => false
def aStore (P : Program) (t : TypeId) (a : AV) (v : AV) (S : St) : Option (List Cmd) :=
  match a with
  | .ref b off =>
    match S.get b, szT P t with
    | some (.blk cs ro T), some n =>
      if v.cells.length = n ∧ v.cells.all AV.scalar = true ∧ off + n ≤ cs.length ∧ ro ≤ off then
        some [.put b (.blk (setRange cs off v.cells) ro T)]
      else none
    | _, _ => none
  | _ => none
def aNew (P : Program) (t : TypeId) (v : AV) (S : St) : Option (AV × List Cmd) :=
  if v.cells.all AV.scalar = true then some (.ref S.next 0, [.new (.blk v.cells 0 t)]) else none
def placeA (P : Program) (t : TypeId) (i : Nat) : Option (Nat × Nat) :=
  match P.underlying t with
  | some (.struct fs) =>
    match fs[i]? with
    | some f =>
      match szT P f.type with
      | some n => some (f.offset, n)
      | none => none
    | none => none
  | some (.array _ e) =>
    match szT P e with
    | some n => some (i * n, n)
    | none => none
  | _ => none
def placesOk (P : Program) (t : TypeId) : Bool :=
  match P.underlying t with
  | some (.struct fs) => fs.toList.all fun f => (szT P f.type).isSome
  | some (.array _ e) => (szT P e).isSome
  | _ => false
def fillA (place : Nat → Option (Nat × Nat)) : List AV → List (Nat × AV) → Option (List AV)
  | cells, [] => some cells
  | cells, (i, v) :: r =>
    match place i with
    | some (off, n) =>
      if v.cells.length = n ∧ off + n ≤ cells.length ∧ v.cells.all AV.scalar = true then fillA place (setRange cells off v.cells) r else none
    | none => none
def partsA (env : Env) : List (Nat × Operand) → Option (List (Nat × AV))
  | [] => some []
  | (i, x) :: r =>
    match opnd env x, partsA env r with
    | some v, some l => some ((i, v) :: l)
    | _, _ => none
def repCells : Nat → List AV → List AV
  | 0, _ => []
  | n + 1, z => z ++ repCells n z
def keyEq : FV → FV → Option Bool
  | .int k a, .int k' b => if k = k' then some (a == b) else none
  | .str a, .str b => some (a == b)
  | _, _ => none
def findA (k : FV) : List (FV × AV) → Option (Option AV)
  | [] => some none
  | (k', v) :: r =>
    match keyEq k k' with
    | some true => some (some v)
    | some false => findA k r
    | none => none
def updA (k : FV) (v : AV) : List (FV × AV) → Option (List (FV × AV))
  | [] => none
  | (k', u) :: r =>
    match keyEq k k' with
    | some true => some ((k, v) :: r)
    | some false =>
      match updA k v r with
      | some l => some ((k', u) :: l)
      | none => none
    | none => none
def mapT (P : Program) (t : TypeId) : Option (TypeId × TypeId) :=
  match P.underlying t with
  | some (.map k e) =>
    match P.underlying k with
    | some (.int _) | some .string => some (k, e)
    | _ => none
  | _ => none
def keyFits (P : Program) (t : TypeId) (k : FV) : Bool :=
  match P.underlying t with
  | some (.int _) => (match k with | .int _ _ => true | _ => false)
  | some .string => (match k with | .str _ => true | _ => false)
  | _ => false
def aLookup (P : Program) (t : TypeId) (m k : AV) (ok : Bool) (S : St) : Option AV :=
  match mapT P t, k with
  | some (kt, e), .c k =>
    match keyFits P kt k, zeroT P e with
    | true, some z =>
      match (match m with | .c .nilm => some [] | .map b => (match S.get b with | some (.map es _ _) => some es | _ => none) | _ => none) with
      | some es =>
        match findA k es with
        | some (some v) => some (bif ok then .tup [v, .c (.bool true)] else v)
        | some none => some (bif ok then .tup [.c z, .c (.bool false)] else .c z)
        | none => none
      | none => none
    | _, _ => none
  | _, _ => none
def aMapUpdate (P : Program) (t : TypeId) (m k v : AV) (S : St) : Option (List Cmd) :=
  match mapT P t, m, k with
  | some (kt, _), .map b, .c k =>
    match S.get b with
    | some (.map es born clock) =>
      match keyFits P kt k, findA k es with
      | true, some none => some [.put b (.map (es ++ [(k, v)]) (born ++ [clock]) (clock + 1))]
      | true, some (some _) =>
        match updA k v es with
        | some l => some [.put b (.map l born clock)]
        | none => none
      | _, _ => none
    | _ => none
  | _, _, _ => none
def leftOf (seen : List Nat) : List (FV × AV) → List Nat → List (FV × AV × Nat)
  | (k, v) :: es, n :: born => bif seen.contains n then leftOf seen es born else (k, v, n) :: leftOf seen es born
  | _, _ => []
def nextRes (b m clock : Nat) (seen : List Nat) : List (FV × AV × Nat) → Res
  | [] => .val (.tup [.c (.bool false)]) []
  | l => .any (l.map fun p => (.tup [.c (.bool true), .c p.1, p.2.1], [.put b (.miter m clock (seen ++ [p.2.2]))]))
def aNextIn (b m clock : Nat) (seen : List Nat) : Option Ob → Option Res
  | some (.map es born ck) => if ck = clock ∧ born.all (fun n => Nat.blt n clock) = true then some (nextRes b m clock seen (leftOf seen es born)) else none
  | _ => none
def aNextMap (b : Nat) (S : St) : Option Ob → Option Res
  | some .niter => some (.val (.tup [.c (.bool false)]) [])
  | some (.miter m clock seen) => aNextIn b m clock seen (S.get m)
  | _ => none
def entOf (n : Nat) : List (FV × AV) → List Nat → Option (FV × AV)
  | p :: es, k :: born => bif Nat.beq k n then some p else entOf n es born
  | _, _ => none
def aEntryIn (clock : Nat) (n : Option Nat) : Option Ob → Option Res
  | some (.map es born ck) =>
    match n with
    | some n => if ck = clock then (entOf n es born).map fun p => .val (.tup [.c p.1, p.2]) [] else none
    | none => none
  | _ => none
def aEntry (S : St) : Option Ob → Option Res
  | some (.miter m clock seen) => aEntryIn clock seen.getLast? (S.get m)
  | _ => none
def mkIface (t : TypeId) : AV → AV
  | .c v => .c (.iface t v)
  | v => .iface t v
def aAssert (P : Program) (x : AV) (T : TypeId) (ok : Bool) : Option AV :=
  match P.underlying T, zeroT P T with
  | some (.interface _), _ => none
  | some _, some z =>
    match x with
    | .c (.iface t v) => if t = T then some (bif ok then .tup [.c v, .c (.bool true)] else .c v) else (bif ok then some (.tup [.c z, .c (.bool false)]) else none)
    | .iface t v => if t = T then some (bif ok then .tup [v, .c (.bool true)] else v) else (bif ok then some (.tup [.c z, .c (.bool false)]) else none)
    | .c .nili => bif ok then some (.tup [.c z, .c (.bool false)]) else none
    | _ => none
  | _, _ => none
def aConv (P : Program) (src dst : TypeId) (x : AV) (S : St) : Option (AV × List Cmd) :=
  match P.underlying src, P.underlying dst with
  | some _, some (.int k) =>
    match x with
    | .c (.int _ n) => some (.c (.int k (k.wrap n)), [])
    | _ => none
  | some u, some .string =>
    match x with
    | .c (.int _ n) => some (.c (.str (Utf8.encode n).data.toList), [])
    | .c (.str s) => some (.c (.str s), [])
    | x =>
      match u with
      | .slice e =>
        match P.underlying e with
        | some (.int .u8) =>
          match rowCells 1 S x with
          | some (cs, _) => (bytesOf cs).map fun l => (.c (.str l), [])
          | none => none
        | _ => none
      | _ => none
  | some _, some (.slice e) =>
    match x, P.underlying e, szT P e with
    | .c (.str s), some (.int .u8), some 1 => if s.length ≤ maxLenA then some (.sl S.next 0 s.length 1 false, [.new (.blk (byteCells s) 0 e)]) else none
    | _, _, _ => none
  | some (.pointer t), some .unsafePointer =>
    match x, szT P t with
    | .ref b off, some (_ + 1) =>
      match S.get b with
      | some (.blk cs _ _) => if off < cs.length then some (.ref b off, []) else none
      | _ => none
    | _, _ => none
  | some .unsafePointer, some (.pointer u) =>
    match x, szT P u with
    | .ref b off, some (_ + 1) =>
      match S.get b with
      | some (.blk cs _ T) => if off = 0 ∧ P.cellsOf T ≠ 0 ∧ P.cellsOf T ≤ cs.length ∧ rowAt P (sameLayout P P.depth · u) P.depth T 1 0 1 = true then some (.ref b off, []) else none
      | _ => none
    | _, _ => none
  | _, _ => none
def calleeA : AV → Option (FuncId × List AV × List AV)
  | .c (.fn f) => some (f, [], [])
  | .clo f first caps => some (f, first, caps)
  | _ => none
def mkClo (f : FuncId) (first caps : List AV) : AV :=
  match first, caps with
  | [], [] => .c (.fn f)
  | _, _ => .clo f first caps
def optA (env : Env) : Option Operand → Option (Option AV)
  | none => some none
  | some x =>
    match opnd env x with
    | some v => some (some v)
    | none => none
def aUnsafeString (P : Program) (pt : TypeId) (b off : Nat) (n : Int) (S : St) : Option (AV × List Cmd) :=
  match P.underlying pt with
  | some (.pointer e) =>
    match S.get b with
    | some (.blk cs _ T) =>
      if T = e ∧ P.cellsOf e = 1 ∧ off = 0 ∧ 0 < n ∧ n.toNat ≤ cs.length ∧ n ≤ 140737488355328 then (bytesOf (cs.take n.toNat)).map fun l => (.c (.str l), [.put b .dead]) else none
    | _ => none
  | _ => none
def aBuiltin (P : Program) (b : Builtin) (ts : List TypeId) (args : List AV) (S : St) : Option (AV × List Cmd) :=
  match b, ts, args with
  | .len, [t], [x] => (lenA P t S x).map fun (n : Nat) => (AV.c (.int .i64 (n : Int)), [])
  | .append, [t, t'], [x, y] => aAppend P t t' x y S
  | .copy, [t, t'], [x, y] => aCopy P t t' x y S
  | .min, _, [.c (.int k a), .c (.int k' b)] => if k = k' then some (.c (.int k (min a b)), []) else none
  | .max, _, [.c (.int k a), .c (.int k' b)] => if k = k' then some (.c (.int k (max a b)), []) else none
  | .unsafeSliceData, _, [.sl b off len _ _] => if 0 < len then some (.ref b off, []) else none
  | .unsafeString, [pt, _], [.ref b off, .c (.int .i64 n)] => aUnsafeString P pt b off n S
  | _, _, _ => none
def evMove (P : Program) (x : Operand) (env : Env) (S : St) : Option Res :=
  (opnd env x).map fun v => .val v []
def evPick (P : Program) (c : Operand) (a : Operand) (b : Operand) (env : Env) (S : St) : Option Res :=
  match opnd env c with
  | some (.c (.bool t)) => (opnd env (bif t then a else b)).map fun v => .val v []
  | _ => none
def evAlloc (P : Program) (t : TypeId) (env : Env) (S : St) : Option Res :=
  match zeroT P t with
  | some z => (aNew P t (.c z) S).map fun r => .val r.1 r.2
  | none => none
def evBox (P : Program) (t : TypeId) (x : Operand) (env : Env) (S : St) : Option Res :=
  match opnd env x with
  | some v => (aNew P t v S).map fun r => .val r.1 r.2
  | none => none
def evBuild (P : Program) (t : TypeId) (ps : Array (Nat × Operand)) (env : Env) (S : St) : Option Res :=
  match zeroT P t, partsA env ps.toList with
  | some z, some l => if placesOk P t = true then (fillA (placeA P t) (z.cells.map .c) l).map fun cs => .val (mkAgg cs) [] else none
  | _, _ => none
def evBuildSlice (P : Program) (t : TypeId) (n : Nat) (ps : Array (Nat × Operand)) (env : Env) (S : St) : Option Res :=
  match elemT P t with
  | some e =>
    match szT P e, zeroT P e, partsA env ps.toList with
    | some s, some z, some l =>
      if n * s ≤ 16777216 ∧ 0 < s ∧ z.cells.length = s then
        match fillA (fun i => some (i * s, s)) (repCells n (z.cells.map .c)) l with
        | some cs => if cs.all AV.scalar = true then some (.val (.sl S.next 0 n s true) [.new (.blk cs 0 e)]) else none
        | none => none
      else none
    | _, _, _ => none
  | none => none
def evLoad (P : Program) (t : TypeId) (x : Operand) (env : Env) (S : St) : Option Res :=
  match opnd env x with
  | some a => (aLoad P t a S).map fun v => .val v []
  | none => none
def evStore (P : Program) (t : TypeId) (x : Operand) (y : Operand) (env : Env) (S : St) : Option Res :=
  match opnd env x, opnd env y with
  | some a, some v => (aStore P t a v S).map fun cs => .skip cs
  | _, _ => none
def evNilCheck (P : Program) (x : Operand) (env : Env) (S : St) : Option Res :=
  match opnd env x with
  | some a => if a.isRef = true then some (.val a []) else none
  | none => none
def evBinOp (P : Program) (op : BinOp) (t : TypeId) (x : Operand) (y : Operand) (env : Env) (S : St) : Option Res :=
  match opnd env x, opnd env y with
  | some a, some b => (aBin P op t a b).map fun v => .val v []
  | _, _ => none
def evUnOp (P : Program) (op : UnOp) (x : Operand) (env : Env) (S : St) : Option Res :=
  match opnd env x with
  | some a => (aUn op a).map fun v => .val v []
  | none => none
def evConvert (P : Program) (src : TypeId) (dst : TypeId) (x : Operand) (env : Env) (S : St) : Option Res :=
  match opnd env x with
  | some a => (aConv P src dst a S).map fun r => .val r.1 r.2
  | none => none
def evMakeInterface (P : Program) (t : TypeId) (x : Operand) (env : Env) (S : St) : Option Res :=
  match opnd env x, P.underlying t with
  | some _, some (.interface _) => none
  | some a, some _ => some (.val (mkIface t a) [])
  | _, _ => none
def evMakeFunc (P : Program) (f : FuncId) (first : Array Operand) (caps : Array Operand) (env : Env) (S : St) : Option Res :=
  match opnds env first.toList, opnds env caps.toList with
  | some l, some m => some (.val (mkClo f l m) [])
  | _, _ => none
def evMakeMap (P : Program)  (env : Env) (S : St) : Option Res :=
  some (.val (.map S.next) [.new (.map [] [] 0)])
def evMakeSlice (P : Program) (t : TypeId) (n : Operand) (m : Operand) (env : Env) (S : St) : Option Res :=
  match opnd env n, opnd env m, elemT P t with
  | some (.c (.int .i64 a)), some (.c (.int .i64 b)), some e =>
    match P.info? e, zeroT P e with
    | some i, some z =>
      if 0 ≤ a ∧ a ≤ b ∧ b.toNat * i.bytes ≤ maxLenA ∧ 0 < i.bytes ∧ 0 < i.size ∧ z.cells.length = i.size then
        some (.val (.sl S.next 0 a.toNat i.size (decide (a = b))) [.new (.blk (repCells b.toNat (z.cells.map .c)) 0 e)])
      else none
    | _, _ => none
  | _, _, _ => none
def evSlice (P : Program) (t : TypeId) (x : Operand) (lo : Option Operand) (hi : Option Operand) (mx : Option Operand) (env : Env) (S : St) : Option Res :=
  match opnd env x, optA env lo, optA env hi, optA env mx with
  | some a, some l, some h, some m => (aSlice P t a l h m S).map fun v => .val v []
  | _, _, _, _ => none
def evFieldAddr (P : Program) (t : TypeId) (x : Operand) (f : Nat) (env : Env) (S : St) : Option Res :=
  match opnd env x, fieldT P t f with
  | some (.ref b off), some (T, d) => (match szT P T with | some (_ + 1) => some (.val (.ref b (off + d)) []) | _ => none)
  | some (.fref e off), some (T, d) => (match szT P T with | some (_ + 1) => some (.val (.fref e (off + d)) []) | _ => none)
  | _, _ => none
def evField (P : Program) (t : TypeId) (x : Operand) (f : Nat) (env : Env) (S : St) : Option Res :=
  match opnd env x, fieldT P t f with
  | some (.c (.agg cs)), some (T, d) => (partOf P T (cs.map .c) d).map fun v => .val v []
  | some (.agg cs), some (T, d) => (partOf P T cs d).map fun v => .val v []
  | _, _ => none
def evIndexAddr (P : Program) (t : TypeId) (x : Operand) (i : Operand) (env : Env) (S : St) : Option Res :=
  match opnd env x, opnd env i with
  | some a, some j => (aIndexAddr P t a j).map fun v => .val v []
  | _, _ => none
def evIndex (P : Program) (t : TypeId) (x : Operand) (i : Operand) (env : Env) (S : St) : Option Res :=
  match opnd env x, opnd env i with
  | some a, some j => (aIndex P t a j).map fun v => .val v []
  | _, _ => none
def evLookup (P : Program) (t : TypeId) (m : Operand) (k : Operand) (ok : Bool) (env : Env) (S : St) : Option Res :=
  match opnd env m, opnd env k with
  | some a, some j => (aLookup P t a j ok S).map fun v => .val v []
  | _, _ => none
def evMapUpdate (P : Program) (t : TypeId) (m : Operand) (k : Operand) (v : Operand) (env : Env) (S : St) : Option Res :=
  match opnd env m, opnd env k, opnd env v with
  | some a, some j, some x => (aMapUpdate P t a j x S).map fun cs => .skip cs
  | _, _, _ => none
def evRange (P : Program) (t : TypeId) (x : Operand) (env : Env) (S : St) : Option Res :=
  match P.underlying t, opnd env x with
  | some .string, some (.c (.str s)) => some (.val (.iter S.next) [.new (.siter s 0)])
  | some (.map _ _), some (.c .nilm) => some (.val (.iter S.next) [.new .niter])
  | some (.map _ _), some (.map b) => (match S.get b with | some (.map _ _ clock) => some (.val (.iter S.next) [.new (.miter b clock [])]) | _ => none)
  | _, _ => none
def evNextStr (P : Program) (x : Operand) (env : Env) (S : St) : Option Res :=
  match opnd env x with
  | some (.iter b) =>
    match S.get b with
    | some (.siter s pos) =>
      if pos < s.length then
        let d := Utf8.decode ⟨s.toArray⟩ pos
        some (.val (.tup [.c (.bool true), .c (.int .i64 pos), .c (.int .i32 d.1)]) [.put b (.siter s (pos + d.2))])
      else some (.val (.tup [.c (.bool false)]) [])
    | _ => none
  | _ => none
def evNextMap (P : Program) (x : Operand) (env : Env) (S : St) : Option Res :=
  match opnd env x with
  | some (.iter b) => aNextMap b S (S.get b)
  | _ => none
def evEntry (P : Program) (x : Operand) (env : Env) (S : St) : Option Res :=
  match opnd env x with
  | some (.iter b) => aEntry S (S.get b)
  | _ => none
def evTypeAssert (P : Program) (x : Operand) (T : TypeId) (ok : Bool) (env : Env) (S : St) : Option Res :=
  match opnd env x with
  | some a => (aAssert P a T ok).map fun v => .val v []
  | none => none
def evExtract (P : Program) (x : Operand) (i : Nat) (env : Env) (S : St) : Option Res :=
  match opnd env x with
  | some (.tup l) => (l[i]?).map fun v => .val v []
  | _ => none
def evPanic (P : Program) (x : Operand) (env : Env) (S : St) : Option Res :=
  match opnd env x with
  | some (.c (.iface t v)) => some (.pan (.c (.iface t v)))
  | some (.iface t v) => some (.pan (.iface t v))
  | _ => none
def evBuiltin (P : Program) (b : Builtin) (args : Array Operand) (argTypes : Array TypeId) (env : Env) (S : St) : Option Res :=
  match opnds env args.toList with
  | some l => (aBuiltin P b argTypes.toList l S).map fun r => .val r.1 r.2
  | none => none
def evCall (P : Program) (f : Operand) (args : Array Operand) (env : Env) (S : St) : Option Res :=
  match opnd env f, opnds env args.toList with
  | some g, some l =>
    match calleeA g with
    | some (f, first, caps) => some (.call f (first ++ l ++ caps))
    | none => none
  | _, _ => none
def methodA (P : Program) (t : TypeId) (name : String) : Option FuncId :=
  match P.info? t, P.underlying t with
  | some i, some (.pointer _) =>
    match i.methods.find? (·.name == name) with
    | some m =>
      match m.path.isEmpty, m.func with
      | true, some (f, true) => some f
      | _, _ => none
    | none => none
  | _, _ => none
def evInvoke (P : Program) (r : Operand) (name : String) (args : Array Operand) (env : Env) (S : St) : Option Res :=
  match opnd env r, opnds env args.toList with
  | some (.iface t v), some l => (methodA P t name).map fun f => .call f (v :: l)
  | some (.c (.iface t v)), some l => (methodA P t name).map fun f => .call f (.c v :: l)
  | _, _ => none
def evalOp (P : Program) (o : Oper) (env : Env) (S : St) : Option Res :=
  match o.op with
  | .move x => evMove P x env S
  | .assign x => evMove P x env S
  | .pick c a b => evPick P c a b env S
  | .alloc t => evAlloc P t env S
  | .box t x => evBox P t x env S
  | .build t ps => evBuild P t ps env S
  | .buildSlice t n ps => evBuildSlice P t n ps env S
  | .load t x => evLoad P t x env S
  | .store t x y => evStore P t x y env S
  | .nilCheck x => evNilCheck P x env S
  | .binOp op t x y _ => evBinOp P op t x y env S
  | .unOp op _ x => evUnOp P op x env S
  | .convert src dst x => evConvert P src dst x env S
  | .makeInterface t x => evMakeInterface P t x env S
  | .makeFunc (.func f) first caps => evMakeFunc P f first caps env S
  | .makeMap _ none => evMakeMap P env S
  | .makeSlice t n m => evMakeSlice P t n m env S
  | .slice t x lo hi mx => evSlice P t x lo hi mx env S
  | .fieldAddr t x f => evFieldAddr P t x f env S
  | .field t x f => evField P t x f env S
  | .indexAddr t x i => evIndexAddr P t x i env S
  | .index t x i => evIndex P t x i env S
  | .lookup t m k ok => evLookup P t m k ok env S
  | .mapUpdate t m k v => evMapUpdate P t m k v env S
  | .insert t m k v => evMapUpdate P t m k v env S
  | .range t x => evRange P t x env S
  | .next x true => evNextStr P x env S
  | .next x false => evNextMap P x env S
  | .entry x => evEntry P x env S
  | .typeAssert x _ T ok => evTypeAssert P x T ok env S
  | .extract x i => evExtract P x i env S
  | .panic x => evPanic P x env S
  | .call { callee := .builtin b, args, argTypes } => evBuiltin P b args argTypes env S
  | .call { callee := .value f, args, .. } => evCall P f args env S
  | .call { callee := .invoke r m, args, .. } => evInvoke P r m args env S
  | _ => none
end Go.Abs

namespace Go.Abs
def wh (w : World) (h : Array Obj) : World := { w with heap := h }
theorem wh_self (w : World) : wh w w.heap = w := rfl
def oneCell (v : Value) : Bool :=
  match v with
  | .agg _ | .tuple _ => false
  | _ => true
theorem Addr_add (g o n : Nat) : (⟨g, o, none⟩ : Addr).add n = ⟨g, o + n, none⟩ := by
  unfold Addr.add; split <;> simp_all
theorem cell_at {w : World} {g : Nat} {C : Array Value} {T : TypeId} {fr : Nat × Nat} (h : w.heap[g]? = some (.cells C T fr)) (i : Nat) :
    w.cell? ⟨g, i, none⟩ = C[i]? := by simp [World.cell?, h]
theorem frozen_at {w : World} {g : Nat} {C : Array Value} {T : TypeId} {lo hi : Nat} (h : w.heap[g]? = some (.cells C T (lo, hi))) (i : Nat) :
    w.frozen? ⟨g, i, none⟩ = (decide (lo ≤ i) && decide (i < hi)) := by simp [World.frozen?, h]
theorem run_load_cell (P : Program) {w : World} {a : Addr} {v : Value} (h : w.cell? a = some v) :
    Sem.run P (load a) w = .ok v w := by simp [load, Sem.run, h]
theorem setCell_wh {w : World} {g : Nat} {C : Array Value} {T : TypeId} {fr : Nat × Nat} (h : w.heap[g]? = some (.cells C T fr)) (i : Nat) (v : Value) :
    w.setCell ⟨g, i, none⟩ v = wh w (w.heap.setIfInBounds g (.cells (C.setIfInBounds i v) T fr)) := by
  have hg : g < w.heap.size := (Array.getElem?_eq_some_iff.1 h).1
  have hv : w.heap[g] = .cells C T fr := (Array.getElem?_eq_some_iff.1 h).2
  unfold World.setCell wh
  congr 1
  apply Array.ext
  · simp
  · intro j h1 h2
    by_cases hj : g = j
    · subst hj
      simp [Array.getElem_modify, hv]
    · rw [Array.getElem_modify_of_ne hj, Array.getElem_setIfInBounds]
      · simp [hj]
      · simpa using h2
theorem run_store_cell (P : Program) {w : World} {g i : Nat} {C : Array Value} {T : TypeId} {lo hi : Nat} {v : Value}
    (h : w.heap[g]? = some (.cells C T (lo, hi))) (hi' : i < C.size) (hf : ¬ (lo ≤ i ∧ i < hi)) (hv : oneCell v = true) :
    Sem.run P (store ⟨g, i, none⟩ v) w = .ok () (wh w (w.heap.setIfInBounds g (.cells (C.setIfInBounds i v) T (lo, hi)))) := by
  have hc : w.cell? ⟨g, i, none⟩ = some C[i] := by rw [cell_at h]; simp [hi']
  have hz : w.frozen? ⟨g, i, none⟩ = false := by rw [frozen_at h]; simp; omega
  have hs := setCell_wh h i v
  cases v <;> simp_all [store, Sem.run, oneCell]
def overL (C : Array Value) (o : Nat) : List Value → Array Value
  | [] => C
  | v :: r => overL (C.setIfInBounds o v) (o + 1) r
theorem overL_size (o : Nat) (vs : List Value) : ∀ C : Array Value, (overL C o vs).size = C.size := by
  induction vs generalizing o with
  | nil => intro C; rfl
  | cons v r ih => intro C; simp [overL, ih]
theorem overL_get (vs : List Value) : ∀ (o : Nat) (C : Array Value) (j : Nat), o + vs.length ≤ C.size →
    (overL C o vs)[j]? = if o ≤ j ∧ j < o + vs.length then vs[j - o]? else C[j]? := by
  induction vs with
  | nil => intro o C j h; simp [overL]; omega
  | cons v r ih =>
    intro o C j h
    simp only [List.length_cons] at h
    rw [overL, ih _ _ _ (by simp; omega)]
    by_cases h1 : o + 1 ≤ j ∧ j < o + 1 + r.length
    · rw [if_pos h1, if_pos (by simp only [List.length_cons]; omega)]
      have : j - o = (j - (o + 1)) + 1 := by omega
      rw [this]; simp
    · rw [if_neg h1]
      by_cases h2 : o = j
      · subst h2
        rw [if_pos (by simp only [List.length_cons]; omega)]
        have hb : o < C.size := by omega
        simp [hb]
      · rw [if_neg (by simp only [List.length_cons]; omega)]
        simp [Array.getElem?_setIfInBounds_ne h2]
theorem run_storeCells (P : Program) {g : Nat} {T : TypeId} {lo hi : Nat} : ∀ (vs : List Value) (o i : Nat) (C : Array Value) (w : World),
    w.heap[g]? = some (.cells C T (lo, hi)) → o + i + vs.length ≤ C.size → (∀ j, o + i ≤ j → j < o + i + vs.length → ¬ (lo ≤ j ∧ j < hi)) →
    vs.all oneCell = true →
    Sem.run P (storeCells ⟨g, o, none⟩ vs i) w = .ok () (wh w (w.heap.setIfInBounds g (.cells (overL C (o + i) vs) T (lo, hi)))) := by
  intro vs
  induction vs with
  | nil =>
    intro o i C w h _ _ _
    have hg : g < w.heap.size := (Array.getElem?_eq_some_iff.1 h).1
    have hv : w.heap[g] = .cells C T (lo, hi) := (Array.getElem?_eq_some_iff.1 h).2
    have : w.heap.setIfInBounds g (.cells C T (lo, hi)) = w.heap := by
      apply Array.ext
      · simp
      · intro j h1 h2
        by_cases hj : g = j
        · subst hj; simp [hv]
        · rw [Array.getElem_setIfInBounds (by simpa using h1)]; simp [hj]
    show Sem.run P (pure ()) w = _
    rw [overL, this, wh_self]
    rfl
  | cons v r ih =>
    intro o i C w h hs hf ha
    simp only [List.all_cons, Bool.and_eq_true, List.length_cons] at ha hs hf
    have hg : g < w.heap.size := (Array.getElem?_eq_some_iff.1 h).1
    show Sem.run P (store ((⟨g, o, none⟩ : Addr).add i) v >>= fun _ => storeCells ⟨g, o, none⟩ r (i + 1)) w = _
    rw [Addr_add, Sem.run_bind, run_store_cell P h (by omega) (hf _ (by omega) (by omega)) ha.1]
    simp only [Result.andThen_ok]
    have h' : (wh w (w.heap.setIfInBounds g (.cells (C.setIfInBounds (o + i) v) T (lo, hi)))).heap[g]? = some (.cells (C.setIfInBounds (o + i) v) T (lo, hi)) := by
      simp [wh, hg]
    rw [ih o (i + 1) _ _ h' (by simp; omega) (fun j h1 h2 => hf j (by omega) (by omega)) ha.2]
    simp [wh, overL, Nat.add_assoc]
theorem run_loadCellsFrom (P : Program) {w : World} {g o : Nat} : ∀ (n i : Nat) (acc : Array Value) (vs : List Value), vs.length = n →
    (∀ j v, vs[j]? = some v → w.cell? ⟨g, o + i + j, none⟩ = some v) →
    Sem.run P (loadCellsFrom ⟨g, o, none⟩ i n acc) w = .ok (acc ++ vs.toArray) w := by
  intro n
  induction n with
  | zero =>
    intro i acc vs hl h
    have : vs = [] := List.eq_nil_of_length_eq_zero hl
    subst this
    simp [loadCellsFrom]
  | succ n ih =>
    intro i acc vs hl h
    match vs, hl with
    | v :: r, hl =>
      unfold loadCellsFrom
      rw [Addr_add, Sem.run_bind, run_load_cell P (v := v) (by simpa using h 0 v (by simp))]
      simp only [Result.andThen_ok]
      rw [ih (i + 1) _ r (by simpa using hl) (fun j u hj => by have := h (j + 1) u (by simpa using hj); rw [← this]; congr 2; omega)]
      simp
theorem run_loadCells (P : Program) {w : World} {g o : Nat} (vs : List Value)
    (h : ∀ j v, vs[j]? = some v → w.cell? ⟨g, o + j, none⟩ = some v) :
    Sem.run P (loadCells ⟨g, o, none⟩ vs.length) w = .ok vs.toArray w := by
  unfold loadCells
  rw [run_loadCellsFrom P vs.length 0 #[] vs rfl (by simpa using h)]
  simp
theorem run_underlying (P : Program) {t : TypeId} {d : TypeDesc} (h : P.underlying t = some d) (w : World) :
    Sem.run P (underlying t) w = .ok d w := by simp [underlying, program, h, Sem.run]
theorem run_typeInfo (P : Program) {t : TypeId} {i : TypeInfo} (h : P.info? t = some i) (w : World) :
    Sem.run P (typeInfo t) w = .ok i w := by simp [typeInfo, program, h, Sem.run]
theorem run_sizeOf (P : Program) {t : TypeId} {n : Nat} (h : szT P t = some n) (w : World) : Sem.run P (sizeOf t) w = .ok n w := by
  unfold szT at h
  split at h
  · rename_i i hi
    simp [sizeOf, run_typeInfo P hi]
    simpa using h
  · cases h
theorem run_isAgg (P : Program) {t : TypeId} {b : Bool} (h : isAggT P t = some b) (w : World) : Sem.run P (isAgg t) w = .ok b w := by
  unfold isAggT at h
  split at h
  · rename_i d hd; simp at h; subst h; simp [isAgg, run_underlying P hd]
  · rename_i d hd; simp at h; subst h; simp [isAgg, run_underlying P hd]
  · rename_i d hs ha hu
    simp at h; subst h
    simp only [isAgg, Sem.run_bind, run_underlying P hu, Result.andThen_ok]
    cases d <;> first | rfl | exact absurd rfl (hs _) | exact absurd rfl (ha _ _)
  · cases h
end Go.Abs

namespace Go.Abs
structure Base where
  g : Nat
  o : Nat
  kn : Nat
  room : Nat
structure Gh where
  F : Nat → Nat → Option Value
  ρ : Nat → Option Base
  τ : Nat → Option (Nat × Nat × Nat × Nat)
def flatF : List FV → List FV
  | [] => []
  | x :: r => x.cells ++ flatF r
theorem flat_eq (xs : List FV) : flat xs = (flatF xs).map .c := by
  induction xs with
  | nil => rfl
  | cons x r ih => simp [flat, flatF, ih]
theorem flatF_length {s : Nat} : ∀ {xs : List FV}, (∀ x ∈ xs, x.cells.length = s) → (flatF xs).length = xs.length * s
  | [], _ => by simp [flatF]
  | x :: r, h => by
    simp only [flatF, List.length_append, List.length_cons]
    rw [h x (by simp), flatF_length fun y hy => h y (by simp [hy])]
    rw [Nat.add_mul]; omega
theorem allSize_iff {s : Nat} : ∀ {xs : List FV}, allSize s xs = true ↔ ∀ x ∈ xs, x.cells.length = s
  | [] => by simp [allSize]
  | x :: r => by
    simp only [allSize, Bool.and_eq_true, List.mem_cons, forall_eq_or_imp, allSize_iff (xs := r)]
    constructor
    · rintro ⟨h, hr⟩; exact ⟨Nat.eq_of_beq_eq_true h, hr⟩
    · rintro ⟨h, hr⟩; exact ⟨by rw [h]; simp, hr⟩
inductive RelF (F : Nat → Nat → Option Value) : FV → Value → Prop
  | bool (b : Bool) : RelF F (.bool b) (.bool b)
  | int (k : IntKind) (n : Int) : RelF F (.int k n) (.int k n)
  | str (s : ByteArray) : RelF F (.str s.data.toList) (.string s)
  | nilp : RelF F .nilp (.pointer none)
  | nils : RelF F .nils (.slice none 0 0)
  | nilm : RelF F .nilm (.map none)
  | nilf : RelF F .nilf .nilFunc
  | nili : RelF F .nili .nilIface
  | fn (f : Nat) : RelF F (.fn f) (.func (.func f) #[] #[])
  | agg (cs : List FV) (vs : List Value) (hl : cs.length = vs.length) (h : ∀ (i : Nat) (a : FV) (b : Value), cs[i]? = some a → vs[i]? = some b → RelF F a b) :
    RelF F (.agg cs) (.agg vs.toArray)
  | iface (t : Nat) (a : FV) (v : Value) (h : RelF F a v) : RelF F (.iface t a) (.iface t v)
  | sl0 (a : Addr) (cap : Nat) : RelF F (.sl []) (.slice (some a) 0 cap)
  | slN : RelF F (.sl []) (.slice none 0 0)
  | sl (xs : List FV) (g o s cap : Nat) (vals : Nat → Value) (hs : ∀ x ∈ xs, x.cells.length = s) (hc : xs.length ≤ cap)
    (hF : ∀ (i : Nat) (a : FV), (flatF xs)[i]? = some a → F g (o + i) = some (vals i))
    (hR : ∀ (i : Nat) (a : FV), (flatF xs)[i]? = some a → RelF F a (vals i)) (ho : ∀ (i : Nat) (a : FV), (flatF xs)[i]? = some a → oneCell (vals i) = true) :
    RelF F (.sl xs) (.slice (some ⟨g, o, none⟩) xs.length cap)
inductive RelA (G : Gh) : AV → Value → Prop
  | c {v : FV} {x : Value} (h : RelF G.F v x) : RelA G (.c v) x
  | ref {b off : Nat} {B : Base} (h : G.ρ b = some B) : RelA G (.ref b off) (.pointer (some ⟨B.g, B.o + off, none⟩))
  | fref {e : FV} {off g o : Nat} {vals : Nat → Value} (hF : ∀ (i : Nat) (a : FV), e.cells[i]? = some a → G.F g (o + i) = some (vals i))
    (hR : ∀ (i : Nat) (a : FV), e.cells[i]? = some a → RelF G.F a (vals i)) : RelA G (.fref e off) (.pointer (some ⟨g, o + off, none⟩))
  | gref (g : Nat) : RelA G (.gref g) (.pointer (some ⟨g, 0, none⟩))
  | sl {b off len s : Nat} {full : Bool} {B : Base} {a : Addr} {cap : Nat} (h : G.ρ b = some B) (ha : cap ≠ 0 → a = ⟨B.g, B.o + off, none⟩)
    (hl : len ≤ cap) (hr : off + cap * s ≤ B.room) (hf : full = true → cap = len) (hk : full = false → B.kn ≤ off + cap * s) :
    RelA G (.sl b off len s full) (.slice (some a) len cap)
  | fz {tag : Nat} {xs : List FV} {g o cap s : Nat} {vals : Nat → Value} (h : G.τ tag = some (g, o + xs.length * s, o + cap * s, s)) (hc : xs.length ≤ cap)
    (hs0 : 0 < s) (hs : ∀ x ∈ xs, x.cells.length = s) (hF : ∀ (i : Nat) (a : FV), (flatF xs)[i]? = some a → G.F g (o + i) = some (vals i))
    (hR : ∀ (i : Nat) (a : FV), (flatF xs)[i]? = some a → RelF G.F a (vals i)) (ho : ∀ (i : Nat) (a : FV), (flatF xs)[i]? = some a → oneCell (vals i) = true) :
    RelA G (.fz tag xs) (.slice (some ⟨g, o, none⟩) xs.length cap)
  | map {b : Nat} {B : Base} (h : G.ρ b = some B) : RelA G (.map b) (.map (some B.g))
  | iter {b : Nat} {B : Base} (h : G.ρ b = some B) : RelA G (.iter b) (.pointer (some ⟨B.g, 0, none⟩))
  | clo {f : Nat} {first caps : List AV} {fs cs : List Value} (hf : first.length = fs.length) (hc : caps.length = cs.length)
    (h1 : ∀ (i : Nat) (a : AV) (b : Value), first[i]? = some a → fs[i]? = some b → RelA G a b)
    (h2 : ∀ (i : Nat) (a : AV) (b : Value), caps[i]? = some a → cs[i]? = some b → RelA G a b) : RelA G (.clo f first caps) (.func (.func f) fs.toArray cs.toArray)
  | iface {t : Nat} {a : AV} {v : Value} (h : RelA G a v) : RelA G (.iface t a) (.iface t v)
  | agg {cs : List AV} {vs : List Value} (hl : cs.length = vs.length) (h : ∀ (i : Nat) (a : AV) (b : Value), cs[i]? = some a → vs[i]? = some b → RelA G a b) :
    RelA G (.agg cs) (.agg vs.toArray)
  | tup {cs : List AV} {vs : List Value} (hl : cs.length = vs.length) (h : ∀ (i : Nat) (a : AV) (b : Value), cs[i]? = some a → vs[i]? = some b → RelA G a b) :
    RelA G (.tup cs) (.tuple vs.toArray)
  | undef {v : Value} : RelA G .undef v
structure RelL (G : Gh) (aq : List AV) (vs : List Value) : Prop where
  len : aq.length = vs.length
  rel : ∀ (i : Nat) (a : AV) (b : Value), aq[i]? = some a → vs[i]? = some b → RelA G a b
theorem RelF.mono {F F' : Nat → Nat → Option Value} (hF : ∀ g o v, F g o = some v → F' g o = some v) {a : FV} {v : Value} (h : RelF F a v) : RelF F' a v := by
  induction h with
  | bool b => exact .bool b
  | int k n => exact .int k n
  | str s => exact .str s
  | nilp => exact .nilp
  | nils => exact .nils
  | nilm => exact .nilm
  | nilf => exact .nilf
  | nili => exact .nili
  | fn f => exact .fn f
  | agg cs vs hl h ih => exact .agg cs vs hl ih
  | iface t a v h ih => exact .iface t a v ih
  | sl0 a cap => exact .sl0 a cap
  | slN => exact .slN
  | sl xs g o s cap vals hs hc hF' hR ho ih => exact .sl xs g o s cap vals hs hc (fun i a h => hF _ _ _ (hF' i a h)) ih ho
structure Gh.le (G G' : Gh) : Prop where
  F : ∀ g o v, G.F g o = some v → G'.F g o = some v
  ρ : ∀ b B, G.ρ b = some B → G'.ρ b = some B
  τ : ∀ t x, G.τ t = some x → G'.τ t = some x
theorem Gh.le.refl (G : Gh) : G.le G := ⟨fun _ _ _ h => h, fun _ _ h => h, fun _ _ h => h⟩
theorem Gh.le.trans {G G' G'' : Gh} (h : G.le G') (h' : G'.le G'') : G.le G'' :=
  ⟨fun _ _ _ k => h'.F _ _ _ (h.F _ _ _ k), fun _ _ k => h'.ρ _ _ (h.ρ _ _ k), fun _ _ k => h'.τ _ _ (h.τ _ _ k)⟩
theorem RelA.mono {G G' : Gh} (hG : G.le G') {a : AV} {v : Value} (h : RelA G a v) : RelA G' a v := by
  induction h with
  | c h => exact .c (h.mono hG.F)
  | ref h => exact .ref (hG.ρ _ _ h)
  | fref hF hR => exact .fref (fun i a h => hG.F _ _ _ (hF i a h)) (fun i a h => (hR i a h).mono hG.F)
  | gref g => exact .gref g
  | sl h ha hl hr hf hk => exact .sl (hG.ρ _ _ h) ha hl hr hf hk
  | fz h hc hs0 hs hF hR ho => exact .fz (hG.τ _ _ h) hc hs0 hs (fun i a h => hG.F _ _ _ (hF i a h)) (fun i a h => (hR i a h).mono hG.F) ho
  | map h => exact .map (hG.ρ _ _ h)
  | iter h => exact .iter (hG.ρ _ _ h)
  | clo hf hc h1 h2 ih1 ih2 => exact .clo hf hc ih1 ih2
  | iface h ih => exact .iface ih
  | agg hl h ih => exact .agg hl ih
  | tup hl h ih => exact .tup hl ih
  | undef => exact .undef
theorem RelL.mono {G G' : Gh} (hG : G.le G') {aq : List AV} {vs : List Value} (h : RelL G aq vs) : RelL G' aq vs :=
  ⟨h.len, fun i a b ha hb => (h.rel i a b ha hb).mono hG⟩
def Ob.live : Ob → Bool
  | .dead => false
  | _ => true
def ObRel (G : Gh) (B : Base) (w : World) : Ob → Prop
  | .blk cs ro T => B.kn = cs.length ∧ cs.length ≤ B.room ∧ ∃ C lo hi, w.heap[B.g]? = some (.cells C T (lo, hi)) ∧ B.o + B.room ≤ C.size ∧
      (∀ (i : Nat) (a : AV), cs[i]? = some a → ∃ v, C[B.o + i]? = some v ∧ RelA G a v ∧ oneCell v = true) ∧
      (∀ j, B.o + ro ≤ j → j < B.o + B.room → ¬ (lo ≤ j ∧ j < hi)) ∧ (∀ j v, G.F B.g j = some v → j < B.o + ro)
  | .map ents born clock => ∃ es : List MapEntry, w.heap[B.g]? = some (.map es.toArray clock) ∧ es.length = ents.length ∧
      (∀ (i : Nat) (e : MapEntry) (p : FV × AV), es[i]? = some e → ents[i]? = some p → RelF G.F p.1 e.key ∧ RelA G p.2 e.val) ∧ (∀ j v, G.F B.g j = some v → False) ∧ es.map (·.born) = born
  | .siter s pos => w.heap[B.g]? = some (.stringIter ⟨s.toArray⟩ pos) ∧ (∀ j v, G.F B.g j = some v → False)
  | .miter m clock seen => (∃ Bm, G.ρ m = some Bm ∧ w.heap[B.g]? = some (.mapIter (some Bm.g) clock seen.toArray clock)) ∧ (∀ j v, G.F B.g j = some v → False)
  | .niter => w.heap[B.g]? = some (.mapIter none 0 #[] 0) ∧ (∀ j v, G.F B.g j = some v → False)
  | .dead => True
def St.Wf (S : St) : Prop := ∀ b o, S.get b = some o → b < S.next
structure Inv0 (G : Gh) (S : St) (w : World) : Prop where
  wf : S.Wf
  cells : ∀ g o v, G.F g o = some v → w.cell? ⟨g, o, none⟩ = some v
  obs : ∀ b ob, S.get b = some ob → ob.live = true → ∃ B, G.ρ b = some B ∧ ObRel G B w ob
  apart : ∀ b b' ob ob' B B', S.get b = some ob → S.get b' = some ob' → ob.live = true → ob'.live = true → G.ρ b = some B → G.ρ b' = some B' → B.g = B'.g → b = b'
  spare : ∀ t ∈ S.spare, ∃ g st en s, G.τ t = some (g, st, en, s) ∧ (∃ C T lo hi, w.heap[g]? = some (.cells C T (lo, hi)) ∧ en ≤ C.size ∧
      (∀ j, st ≤ j → j < en → ¬ (lo ≤ j ∧ j < hi))) ∧ (∀ j v, G.F g j = some v → j < st) ∧
      (∀ b ob B, S.get b = some ob → ob.live = true → G.ρ b = some B → B.g ≠ g)
  tags : ∀ t t' g x x', t ∈ S.spare → t' ∈ S.spare → G.τ t = some (g, x) → G.τ t' = some (g, x') → t = t'
  nodup : S.spare.Nodup
  fresh : ∀ b, S.next ≤ b → G.ρ b = none ∧ G.τ b = none
  born : ∀ b B, G.ρ b = some B → B.g < w.heap.size ∧ B.o = 0
def Own (G : Gh) (S : St) (g : Nat) : Prop :=
  (∃ b ob B, S.get b = some ob ∧ ob.live = true ∧ G.ρ b = some B ∧ B.g = g) ∨ ∃ t ∈ S.spare, ∃ x, G.τ t = some (g, x)
structure Inv (G : Gh) (S : St) (w : World) : Prop extends Inv0 G S w where
  known : ∀ p ∈ S.known, (∃ T fr, w.heap[p.1]? = some (.cells p.2.toArray T fr)) ∧ ¬ Own G S p.1
structure Ext (G : Gh) (S : St) (w : World) (G' : Gh) (S' : St) (w' : World) : Prop where
  le : G.le G'
  next : S.next ≤ S'.next
  size : w.heap.size ≤ w'.heap.size
  same : ∀ g, g < w.heap.size → ¬ Own G S g → w'.heap[g]? = w.heap[g]?
  own : ∀ g, Own G' S' g → Own G S g ∨ w.heap.size ≤ g
  os : w'.os = w.os
  tape : w'.tape = w.tape
  output : w'.output = w.output
theorem Ext.refl (G : Gh) (S : St) (w : World) : Ext G S w G S w :=
  ⟨.refl G, Nat.le_refl _, Nat.le_refl _, fun _ _ _ => rfl, fun _ h => .inl h, rfl, rfl, rfl⟩
theorem Ext.trans {G G1 G2 : Gh} {S S1 S2 : St} {w w1 w2 : World} (h : Ext G S w G1 S1 w1) (k : Ext G1 S1 w1 G2 S2 w2) : Ext G S w G2 S2 w2 where
  le := h.le.trans k.le
  next := Nat.le_trans h.next k.next
  size := Nat.le_trans h.size k.size
  same := fun g hg hn => by
    rw [k.same g (Nat.lt_of_lt_of_le hg h.size) fun ho => ?_, h.same g hg hn]
    rcases h.own g ho with h1 | h1
    · exact hn h1
    · omega
  own := fun g ho => by
    rcases k.own g ho with h1 | h1
    · rcases h.own g h1 with h2 | h2
      · exact .inl h2
      · exact .inr h2
    · exact .inr (Nat.le_trans h.size h1)
  os := k.os.trans h.os
  tape := k.tape.trans h.tape
  output := k.output.trans h.output
theorem known_ext {G G' : Gh} {S S' : St} {w w' : World} (h : Inv G S w) (hk : S'.known = S.known) (x : Ext G S w G' S' w') :
    ∀ p ∈ S'.known, (∃ T fr, w'.heap[p.1]? = some (.cells p.2.toArray T fr)) ∧ ¬ Own G' S' p.1 := by
  intro p hp
  rw [hk] at hp
  obtain ⟨⟨T, fr, h1⟩, h2⟩ := h.known p hp
  have hlt : p.1 < w.heap.size := (Array.getElem?_eq_some_iff.1 h1).1
  refine ⟨⟨T, fr, (x.same _ hlt h2).trans h1⟩, fun ho => ?_⟩
  rcases x.own _ ho with h3 | h3
  · exact h2 h3
  · omega
theorem inv_and {G G' : Gh} {S S' : St} {w w' : World} (h : Inv G S w) (hk : S'.known = S.known) (k : Inv0 G' S' w' ∧ Ext G S w G' S' w') : Inv G' S' w' ∧ Ext G S w G' S' w' :=
  ⟨⟨k.1, known_ext h hk k.2⟩, k.2⟩
theorem inv_and3 {G G' : Gh} {S S' : St} {w w' : World} {R : Prop} (h : Inv G S w) (hk : S'.known = S.known) (k : Inv0 G' S' w' ∧ Ext G S w G' S' w' ∧ R) : Inv G' S' w' ∧ Ext G S w G' S' w' ∧ R :=
  ⟨⟨k.1, known_ext h hk k.2.1⟩, k.2⟩
def drew (w : World) : World := { w with drawn := w.drawn + 1 }
theorem ObRel_drew {G : Gh} {B : Base} {w : World} {ob : Ob} (h : ObRel G B w ob) : ObRel G B (drew w) ob := by
  cases ob <;> exact h
theorem Inv.drew {G : Gh} {S : St} {w : World} (h : Inv G S w) : Inv G S (drew w) :=
  ⟨⟨h.wf, h.cells, fun b ob hb hl => let ⟨B, h1, h2⟩ := h.obs b ob hb hl; ⟨B, h1, ObRel_drew h2⟩, h.apart, h.spare, h.tags, h.nodup, h.fresh, h.born⟩, h.known⟩
theorem Ext.drew (G : Gh) (S : St) (w : World) : Ext G S w G S (drew w) :=
  ⟨.refl G, Nat.le_refl _, Nat.le_refl _, fun _ _ _ => rfl, fun _ h => .inl h, rfl, rfl, rfl⟩
end Go.Abs

namespace Go.Abs
theorem Wf_put {S : St} (h : S.Wf) {b : Nat} {u : Ob} (hb : S.get b = some u) (o : Ob) : (S.put b o).Wf := by
  intro b' o' hg
  rw [St.get_put] at hg
  split at hg
  · rename_i e; subst e; exact h b u hb
  · exact h b' o' hg
theorem Wf_new {S : St} (h : S.Wf) (o : Ob) : (S.new o).Wf := by
  intro b' o' hg
  rw [St.get_new] at hg
  show b' < S.next + 1
  split at hg
  · omega
  · have := h b' o' hg; omega
theorem ObRel.keep {G G' : Gh} {B : Base} {w w' : World} {ob : Ob} (hG : G.le G') (hF : ∀ j v, G'.F B.g j = some v → G.F B.g j = some v)
    (hw : w'.heap[B.g]? = w.heap[B.g]?) (h : ObRel G B w ob) : ObRel G' B w' ob := by
  cases ob with
  | blk cs ro T =>
    obtain ⟨h1, h2, C, lo, hi, h3, h4, h5, h6, h7⟩ := h
    exact ⟨h1, h2, C, lo, hi, hw.trans h3, h4, fun i a ha => let ⟨v, k1, k2, k3⟩ := h5 i a ha; ⟨v, k1, k2.mono hG, k3⟩, h6, fun j v hj => h7 j v (hF j v hj)⟩
  | map ents born clock =>
    obtain ⟨es, h1, h2, h3, h4, h5⟩ := h
    exact ⟨es, hw.trans h1, h2, fun i e p he hp => ⟨((h3 i e p he hp).1).mono hG.F, ((h3 i e p he hp).2).mono hG⟩, fun j v hj => h4 j v (hF j v hj), h5⟩
  | miter m clock seen =>
    obtain ⟨⟨Bm, h1, h2⟩, h3⟩ := h
    exact ⟨⟨Bm, hG.ρ _ _ h1, hw.trans h2⟩, fun j v hj => h3 j v (hF j v hj)⟩
  | niter => exact ⟨hw.trans h.1, fun j v hj => h.2 j v (hF j v hj)⟩
  | siter s pos => exact ⟨hw.trans h.1, fun j v hj => h.2 j v (hF j v hj)⟩
  | dead => trivial
theorem cell_keep {w w' : World} {g o : Nat} {v : Value} (hw : w'.heap[g]? = w.heap[g]?) (h : w.cell? ⟨g, o, none⟩ = some v) : w'.cell? ⟨g, o, none⟩ = some v := by
  unfold World.cell? at *
  rw [hw]; exact h
theorem cell_lt {w : World} {g o : Nat} {v : Value} (h : w.cell? ⟨g, o, none⟩ = some v) : g < w.heap.size := by
  unfold World.cell? at h
  split at h
  · rename_i hh
    exact (Array.getElem?_eq_some_iff.1 hh).1
  · cases h
def Gh.bind (G : Gh) (b : Nat) (B : Base) : Gh := { G with ρ := fun x => if x = b then some B else G.ρ x }
theorem Gh.bind_self (G : Gh) (b : Nat) (B : Base) : (G.bind b B).ρ b = some B := by simp [Gh.bind]
theorem Gh.bind_ne (G : Gh) {b x : Nat} (B : Base) (h : x ≠ b) : (G.bind b B).ρ x = G.ρ x := by simp [Gh.bind, h]
theorem Gh.le_bind {G : Gh} {b : Nat} (B : Base) (h : G.ρ b = none) : G.le (G.bind b B) :=
  ⟨fun _ _ _ h => h, fun x C hx => by
    by_cases hb : x = b
    · subst hb; rw [h] at hx; cases hx
    · rw [Gh.bind_ne G B hb]; exact hx, fun _ _ h => h⟩
theorem inv_new {G : Gh} {S : St} {w : World} (h : Inv G S w) (ob : Ob) (obj : Obj) (kn room : Nat)
    (hR : ObRel (G.bind S.next ⟨w.heap.size, 0, kn, room⟩) ⟨w.heap.size, 0, kn, room⟩ (wh w (w.heap.push obj)) ob) :
    Inv (G.bind S.next ⟨w.heap.size, 0, kn, room⟩) (S.new ob) (wh w (w.heap.push obj)) ∧
      Ext G S w (G.bind S.next ⟨w.heap.size, 0, kn, room⟩) (S.new ob) (wh w (w.heap.push obj)) := by
  have hfr := (h.fresh S.next (Nat.le_refl _)).1
  have hle := Gh.le_bind (G := G) ⟨w.heap.size, 0, kn, room⟩ hfr
  have hkeep : ∀ g, g < w.heap.size → (wh w (w.heap.push obj)).heap[g]? = w.heap[g]? := fun g hg => by
    show (w.heap.push obj)[g]? = _
    rw [Array.getElem?_push]; simp [Nat.ne_of_lt hg]
  have hold : ∀ b ob', (S.new ob).get b = some ob' → b ≠ S.next → S.get b = some ob' := fun b ob' hb hne => by
    rw [St.get_new, if_neg (Ne.symm hne)] at hb; exact hb
  refine inv_and h rfl ⟨⟨Wf_new h.wf ob, ?_, ?_, ?_, ?_, ?_, h.nodup, ?_, ?_⟩, ⟨hle, Nat.le_succ _, by simp [wh], fun g hg _ => hkeep g hg, ?_, rfl, rfl, rfl⟩⟩
  · intro g o v hv
    have := h.cells g o v hv
    exact cell_keep (hkeep g (cell_lt this)) this
  · intro b ob' hb hl
    by_cases hbn : b = S.next
    · subst hbn
      rw [St.get_new, if_pos rfl] at hb
      cases hb
      exact ⟨_, Gh.bind_self _ _ _, hR⟩
    · obtain ⟨B, h1, h2⟩ := h.obs b ob' (hold b ob' hb hbn) hl
      exact ⟨B, by rw [Gh.bind_ne G _ hbn]; exact h1, h2.keep hle (fun j v hj => hj) (hkeep _ (h.born b B h1).1)⟩
  · intro b b' o1 o2 B B' h1 h2 l1 l2 r1 r2 he
    by_cases hb : b = S.next
    · by_cases hb' : b' = S.next
      · rw [hb, hb']
      · rw [hb, Gh.bind_self] at r1
        rw [Gh.bind_ne G _ hb'] at r2
        cases r1
        have := (h.born _ _ r2).1
        simp only at he; omega
    · by_cases hb' : b' = S.next
      · rw [hb', Gh.bind_self] at r2
        rw [Gh.bind_ne G _ hb] at r1
        cases r2
        have := (h.born _ _ r1).1
        simp only at he; omega
      · rw [Gh.bind_ne G _ hb] at r1
        rw [Gh.bind_ne G _ hb'] at r2
        exact h.apart b b' o1 o2 B B' (hold _ _ h1 hb) (hold _ _ h2 hb') l1 l2 r1 r2 he
  · intro t ht
    obtain ⟨g, st, en, s, k1, ⟨C, T, lo, hi, k2, k3, k4⟩, k5, k6⟩ := h.spare t ht
    have hg : g < w.heap.size := (Array.getElem?_eq_some_iff.1 k2).1
    refine ⟨g, st, en, s, k1, ⟨C, T, lo, hi, (hkeep g hg).trans k2, k3, k4⟩, k5, ?_⟩
    intro b ob' B hb hl hr
    by_cases hbn : b = S.next
    · subst hbn
      rw [Gh.bind_self] at hr
      cases hr
      simp only; omega
    · rw [Gh.bind_ne G _ hbn] at hr
      exact k6 b ob' B (hold b ob' hb hbn) hl hr
  · exact h.tags
  · intro b hb
    have hb' : S.next + 1 ≤ b := hb
    exact ⟨by rw [Gh.bind_ne G _ (by omega)]; exact (h.fresh b (by omega)).1, (h.fresh b (by omega)).2⟩
  · intro b B hb
    show B.g < (w.heap.push obj).size ∧ B.o = 0
    rw [Array.size_push]
    by_cases hbn : b = S.next
    · subst hbn
      rw [Gh.bind_self] at hb
      cases hb
      exact ⟨by simp only; omega, rfl⟩
    · rw [Gh.bind_ne G _ hbn] at hb
      have := h.born b B hb
      exact ⟨by omega, this.2⟩
  · intro g hg
    rcases hg with ⟨b, ob', B, h1, h2, h3, h4⟩ | ⟨t, ht, x, hx⟩
    · by_cases hbn : b = S.next
      · subst hbn
        rw [Gh.bind_self] at h3
        cases h3
        exact .inr (by simp only at h4; omega)
      · rw [Gh.bind_ne G _ hbn] at h3
        exact .inl (.inl ⟨b, ob', B, hold b ob' h1 hbn, h2, h3, h4⟩)
    · exact .inl (.inr ⟨t, ht, x, hx⟩)
theorem inv_new_blk {G : Gh} {S : St} {w : World} (h : Inv G S w) (cs : List AV) (ro : Nat) (C : List Value) (T : TypeId) (lo hi : Nat)
    (hlen : cs.length ≤ C.length) (hrel : ∀ (i : Nat) (a : AV), cs[i]? = some a → ∃ v, C[i]? = some v ∧ RelA G a v ∧ oneCell v = true)
    (hfr : ∀ j, j < C.length → ¬ (lo ≤ j ∧ j < hi)) :
    ∃ G', Inv G' (S.new (.blk cs ro T)) (wh w (w.heap.push (.cells C.toArray T (lo, hi)))) ∧
      Ext G S w G' (S.new (.blk cs ro T)) (wh w (w.heap.push (.cells C.toArray T (lo, hi)))) ∧ G'.ρ S.next = some ⟨w.heap.size, 0, cs.length, C.length⟩ := by
  have hle := Gh.le_bind (G := G) ⟨w.heap.size, 0, cs.length, C.length⟩ (h.fresh S.next (Nat.le_refl _)).1
  have hR : ObRel (G.bind S.next ⟨w.heap.size, 0, cs.length, C.length⟩) ⟨w.heap.size, 0, cs.length, C.length⟩ (wh w (w.heap.push (.cells C.toArray T (lo, hi)))) (.blk cs ro T) := by
    refine ⟨rfl, hlen, C.toArray, lo, hi, (by show (w.heap.push (.cells C.toArray T (lo, hi)))[w.heap.size]? = _; simp), by simp, ?_, ?_, ?_⟩
    · intro i a ha
      obtain ⟨v, k1, k2, k3⟩ := hrel i a ha
      exact ⟨v, by simpa using k1, k2.mono hle, k3⟩
    · intro j h1 h2
      exact hfr j (by simpa using h2)
    · intro j v hj
      have := cell_lt (h.cells _ _ _ hj)
      simp only at this; omega
  obtain ⟨h1, h2⟩ := inv_new h (.blk cs ro T) _ _ _ hR
  exact ⟨_, h1, h2, Gh.bind_self _ _ _⟩
end Go.Abs

namespace Go.Abs
theorem wh_set_ne {w : World} {g : Nat} {o : Obj} {k : Nat} (h : g ≠ k) : (wh w (w.heap.setIfInBounds g o)).heap[k]? = w.heap[k]? := by
  simp [wh, Array.getElem?_setIfInBounds_ne h]
theorem wh_set_eq {w : World} {g : Nat} {o : Obj} (h : g < w.heap.size) : (wh w (w.heap.setIfInBounds g o)).heap[g]? = some o := by
  simp [wh, h]
theorem inv_upd {G : Gh} {S : St} {w : World} (h : Inv G S w) {b : Nat} {ob0 ob : Ob} {B : Base} (hb : S.get b = some ob0) (hl0 : ob0.live = true) (hl : ob.live = true)
    (hB : G.ρ b = some B) (obj : Obj) (hR : ObRel G B (wh w (w.heap.setIfInBounds B.g obj)) ob)
    (hF : ∀ j v, G.F B.g j = some v → (wh w (w.heap.setIfInBounds B.g obj)).cell? ⟨B.g, j, none⟩ = some v) :
    Inv G (S.put b ob) (wh w (w.heap.setIfInBounds B.g obj)) ∧ Ext G S w G (S.put b ob) (wh w (w.heap.setIfInBounds B.g obj)) := by
  have hg := (h.born b B hB).1
  have hget : ∀ b' ob', (S.put b ob).get b' = some ob' → b' ≠ b → S.get b' = some ob' := fun b' ob' h1 h2 => by
    rw [St.get_put, if_neg (Ne.symm h2)] at h1; exact h1
  have hlive : ∀ b' ob', (S.put b ob).get b' = some ob' → ob'.live = true → ∃ o2, S.get b' = some o2 ∧ o2.live = true := fun b' ob' h1 h2 => by
    by_cases e : b' = b
    · subst e; exact ⟨ob0, hb, hl0⟩
    · exact ⟨ob', hget b' ob' h1 e, h2⟩
  refine inv_and h rfl ⟨⟨Wf_put h.wf hb ob, ?_, ?_, ?_, ?_, h.tags, h.nodup, h.fresh, ?_⟩, ⟨.refl G, Nat.le_refl _, by simp [wh], ?_, ?_, rfl, rfl, rfl⟩⟩
  · intro g o v hv
    by_cases e : B.g = g
    · subst e; exact hF o v hv
    · exact cell_keep (wh_set_ne e) (h.cells g o v hv)
  · intro b' ob' h1 h2
    by_cases e : b' = b
    · subst e
      rw [St.get_put, if_pos rfl] at h1
      cases h1
      exact ⟨B, hB, hR⟩
    · obtain ⟨B', k1, k2⟩ := h.obs b' ob' (hget b' ob' h1 e) h2
      have hne : B.g ≠ B'.g := fun he => e (h.apart b b' ob0 ob' B B' hb (hget b' ob' h1 e) hl0 h2 hB k1 he).symm
      exact ⟨B', k1, k2.keep (.refl G) (fun _ _ hj => hj) (wh_set_ne hne)⟩
  · intro b1 b2 o1 o2 B1 B2 h1 h2 l1 l2 r1 r2 he
    obtain ⟨p1, q1, q1'⟩ := hlive b1 o1 h1 l1
    obtain ⟨p2, q2, q2'⟩ := hlive b2 o2 h2 l2
    exact h.apart b1 b2 p1 p2 B1 B2 q1 q2 q1' q2' r1 r2 he
  · intro t ht
    obtain ⟨g, st, en, s, k1, ⟨C, T, lo, hi, k2, k3, k4⟩, k5, k6⟩ := h.spare t ht
    have hne : B.g ≠ g := k6 b ob0 B hb hl0 hB
    refine ⟨g, st, en, s, k1, ⟨C, T, lo, hi, (wh_set_ne hne).trans k2, k3, k4⟩, k5, ?_⟩
    intro b' ob' B' h1 h2 h3
    obtain ⟨p1, q1, q1'⟩ := hlive b' ob' h1 h2
    exact k6 b' p1 B' q1 q1' h3
  · intro b' B' h1
    have := h.born b' B' h1
    simpa [wh] using this
  · intro g hg' hn
    exact wh_set_ne fun e => hn (.inl ⟨b, ob0, B, hb, hl0, hB, e⟩)
  · intro g ho
    rcases ho with ⟨b', ob', B', h1, h2, h3, h4⟩ | ho
    · obtain ⟨p1, q1, q1'⟩ := hlive b' ob' h1 h2
      exact .inl (.inl ⟨b', p1, B', q1, q1', h3, h4⟩)
    · exact .inl (.inr ho)
theorem inv_kill {G : Gh} {S : St} {w : World} (h : Inv G S w) {b : Nat} {ob0 : Ob} {B : Base} (hb : S.get b = some ob0) (hl0 : ob0.live = true)
    (hB : G.ρ b = some B) (obj : Obj) (hF : ∀ j v, G.F B.g j = some v → (wh w (w.heap.setIfInBounds B.g obj)).cell? ⟨B.g, j, none⟩ = some v) :
    Inv G (S.del b) (wh w (w.heap.setIfInBounds B.g obj)) ∧ Ext G S w G (S.del b) (wh w (w.heap.setIfInBounds B.g obj)) ∧ ¬ Own G (S.del b) B.g := by
  have hg := (h.born b B hB).1
  have hget : ∀ b' ob', (S.del b).get b' = some ob' → ob'.live = true → b' ≠ b ∧ S.get b' = some ob' := fun b' ob' h1 h2 => by
    unfold St.del at h1
    rw [St.get_put] at h1
    by_cases e : b = b'
    · rw [if_pos e] at h1; cases h1; cases h2
    · rw [if_neg e] at h1; exact ⟨Ne.symm e, h1⟩
  refine inv_and3 h rfl ⟨⟨Wf_put h.wf hb _, ?_, ?_, ?_, ?_, h.tags, h.nodup, h.fresh, ?_⟩, ⟨.refl G, Nat.le_refl _, by simp [wh], ?_, ?_, rfl, rfl, rfl⟩, ?_⟩
  · intro g o v hv
    by_cases e : B.g = g
    · subst e; exact hF o v hv
    · exact cell_keep (wh_set_ne e) (h.cells g o v hv)
  · intro b' ob' h1 h2
    obtain ⟨e, h1'⟩ := hget b' ob' h1 h2
    obtain ⟨B', k1, k2⟩ := h.obs b' ob' h1' h2
    have hne : B.g ≠ B'.g := fun he => e (h.apart b b' ob0 ob' B B' hb h1' hl0 h2 hB k1 he).symm
    exact ⟨B', k1, k2.keep (.refl G) (fun _ _ hj => hj) (wh_set_ne hne)⟩
  · intro b1 b2 o1 o2 B1 B2 h1 h2 l1 l2 r1 r2 he
    exact h.apart b1 b2 o1 o2 B1 B2 (hget b1 o1 h1 l1).2 (hget b2 o2 h2 l2).2 l1 l2 r1 r2 he
  · intro t ht
    obtain ⟨g, st, en, s, k1, ⟨C, T, lo, hi, k2, k3, k4⟩, k5, k6⟩ := h.spare t ht
    have hne : B.g ≠ g := k6 b ob0 B hb hl0 hB
    exact ⟨g, st, en, s, k1, ⟨C, T, lo, hi, (wh_set_ne hne).trans k2, k3, k4⟩, k5, fun b' ob' B' h1 h2 h3 => k6 b' ob' B' (hget b' ob' h1 h2).2 h2 h3⟩
  · intro b' B' h1
    have := h.born b' B' h1
    simpa [wh] using this
  · intro g hg' hn
    exact wh_set_ne fun e => hn (.inl ⟨b, ob0, B, hb, hl0, hB, e⟩)
  · intro g ho
    rcases ho with ⟨b', ob', B', h1, h2, h3, h4⟩ | ho
    · exact .inl (.inl ⟨b', ob', B', (hget b' ob' h1 h2).2, h2, h3, h4⟩)
    · exact .inl (.inr ho)
  · rintro (⟨b', ob', B', h1, h2, h3, h4⟩ | ⟨t, ht, x, hx⟩)
    · obtain ⟨e, h1'⟩ := hget b' ob' h1 h2
      exact e (h.apart b' b ob' ob0 B' B h1' hb h2 hl0 h3 hB h4)
    · obtain ⟨g, st, en, s, k1, _, _, k6⟩ := h.spare t ht
      rw [hx] at k1
      have : B.g = g := by cases k1; rfl
      exact k6 b ob0 B hb hl0 hB this
theorem inv_adopt {G : Gh} {S : St} {w : World} (h : Inv G S w) (ob : Ob) (B : Base) (hg : B.g < w.heap.size) (ho : B.o = 0) (hn : ¬ Own G S B.g)
    (hR : ObRel (G.bind S.next B) B w ob) (hkn : ∀ p ∈ S.known, p.1 ≠ B.g) :
    Inv (G.bind S.next B) (S.new ob) w ∧ G.le (G.bind S.next B) ∧ ∀ g, Own (G.bind S.next B) (S.new ob) g → Own G S g ∨ g = B.g := by
  have hfr := (h.fresh S.next (Nat.le_refl _)).1
  have hle := Gh.le_bind (G := G) B hfr
  have hold : ∀ b ob', (S.new ob).get b = some ob' → b ≠ S.next → S.get b = some ob' := fun b ob' hb hne => by
    rw [St.get_new, if_neg (Ne.symm hne)] at hb; exact hb
  suffices hs : Inv0 (G.bind S.next B) (S.new ob) w ∧ G.le (G.bind S.next B) ∧ ∀ g, Own (G.bind S.next B) (S.new ob) g → Own G S g ∨ g = B.g from
    ⟨⟨hs.1, fun p hp => ⟨(h.known p hp).1, fun ho => by
      rcases hs.2.2 _ ho with h1 | h1
      · exact (h.known p hp).2 h1
      · exact hkn p hp h1⟩⟩, hs.2⟩
  refine ⟨⟨Wf_new h.wf ob, h.cells, ?_, ?_, ?_, h.tags, h.nodup, ?_, ?_⟩, hle, ?_⟩
  · intro b ob' hb hl
    by_cases hbn : b = S.next
    · subst hbn
      rw [St.get_new, if_pos rfl] at hb
      cases hb
      exact ⟨_, Gh.bind_self _ _ _, hR⟩
    · obtain ⟨B', h1, h2⟩ := h.obs b ob' (hold b ob' hb hbn) hl
      exact ⟨B', by rw [Gh.bind_ne G _ hbn]; exact h1, h2.keep hle (fun j v hj => hj) rfl⟩
  · intro b b' o1 o2 B1 B2 h1 h2 l1 l2 r1 r2 he
    by_cases hb : b = S.next
    · by_cases hb' : b' = S.next
      · rw [hb, hb']
      · rw [hb, Gh.bind_self] at r1
        rw [Gh.bind_ne G _ hb'] at r2
        cases r1
        exact absurd (.inl ⟨b', o2, B2, hold _ _ h2 hb', l2, r2, he.symm⟩) hn
    · by_cases hb' : b' = S.next
      · rw [hb', Gh.bind_self] at r2
        rw [Gh.bind_ne G _ hb] at r1
        cases r2
        exact absurd (.inl ⟨b, o1, B1, hold _ _ h1 hb, l1, r1, he⟩) hn
      · rw [Gh.bind_ne G _ hb] at r1
        rw [Gh.bind_ne G _ hb'] at r2
        exact h.apart b b' o1 o2 B1 B2 (hold _ _ h1 hb) (hold _ _ h2 hb') l1 l2 r1 r2 he
  · intro t ht
    obtain ⟨g, st, en, s, k1, k2, k5, k6⟩ := h.spare t ht
    refine ⟨g, st, en, s, k1, k2, k5, ?_⟩
    intro b ob' B' hb hl hr
    by_cases hbn : b = S.next
    · subst hbn
      rw [Gh.bind_self] at hr
      cases hr
      exact fun e => hn (.inr ⟨t, ht, (st, en, s), by rw [k1, e]⟩)
    · rw [Gh.bind_ne G _ hbn] at hr
      exact k6 b ob' B' (hold b ob' hb hbn) hl hr
  · intro b hb
    have hb' : S.next + 1 ≤ b := hb
    exact ⟨by rw [Gh.bind_ne G _ (by omega)]; exact (h.fresh b (by omega)).1, (h.fresh b (by omega)).2⟩
  · intro b B' hb
    by_cases hbn : b = S.next
    · subst hbn
      rw [Gh.bind_self] at hb
      cases hb
      exact ⟨hg, ho⟩
    · rw [Gh.bind_ne G _ hbn] at hb
      exact h.born b B' hb
  · intro g ho
    rcases ho with ⟨b, ob', B', h1, h2, h3, h4⟩ | ⟨t, ht, x, hx⟩
    · by_cases hbn : b = S.next
      · subst hbn
        rw [Gh.bind_self] at h3
        cases h3
        exact .inr h4.symm
      · rw [Gh.bind_ne G _ hbn] at h3
        exact .inl (.inl ⟨b, ob', B', hold b ob' h1 hbn, h2, h3, h4⟩)
    · exact .inl (.inr ⟨t, ht, x, hx⟩)
theorem Ext.adopt {G G1 : Gh} {S S1 S2 : St} {w w1 : World} {B : Base} (h : Ext G S w G S1 w1) (hle : G.le G1) (hn : S1.next ≤ S2.next) (hB : Own G S B.g)
    (ho : ∀ g, Own G1 S2 g → Own G S1 g ∨ g = B.g) : Ext G S w G1 S2 w1 :=
  ⟨hle, Nat.le_trans h.next hn, h.size, h.same, fun g hg => by
    rcases ho g hg with h1 | h1
    · exact h.own g h1
    · subst h1; exact .inl hB, h.os, h.tape, h.output⟩
end Go.Abs

namespace Go.Abs
structure EnvRel (N : Nat) (G : Gh) (env : Env) (tmps : Array Value) : Prop where
  size : tmps.size = N
  get : ∀ t, RelA G (env.get t) (tmps.getD t undef)
theorem EnvRel.mono {N : Nat} {G G' : Gh} {env : Env} {tmps : Array Value} (h : EnvRel N G env tmps) (hG : G.le G') : EnvRel N G' env tmps :=
  ⟨h.size, fun t => (h.get t).mono hG⟩
theorem EnvRel.set {N : Nat} {G : Gh} {env : Env} {tmps : Array Value} (h : EnvRel N G env tmps) {d : Nat} (hd : d < N) {v : AV} {x : Value} (hv : RelA G v x) :
    EnvRel N G (env.set d v) (tmps.setIfInBounds d x) := by
  refine ⟨by simp [h.size], fun t => ?_⟩
  rw [Env.get_set]
  by_cases e : d = t
  · subst e
    rw [if_pos rfl]
    have : d < tmps.size := by rw [h.size]; exact hd
    simpa [Array.getD, this] using hv
  · rw [if_neg e]
    have := h.get t
    simpa [Array.getD_eq_getD_getElem?, Array.getElem?_setIfInBounds_ne e] using this
theorem ofScalar_rel {F : Nat → Nat → Option Value} {v : Value} {x : FV} (h : FV.ofScalar v = some x) : RelF F x v ∧ (∀ l, x ≠ .agg l) := by
  unfold FV.ofScalar at h
  split at h <;> first
    | (cases h; exact ⟨by constructor, by intro l; simp⟩)
    | cases h
theorem ofScalars_rel {F : Nat → Nat → Option Value} : ∀ {vs : List Value} {l : List FV}, FV.ofScalars vs = some l →
    l.length = vs.length ∧ ∀ (i : Nat) (a : FV) (b : Value), l[i]? = some a → vs[i]? = some b → RelF F a b
  | [], l, h => by simp [FV.ofScalars] at h; subst h; exact ⟨rfl, fun i a b h => by simp at h⟩
  | v :: r, l, h => by
    simp only [FV.ofScalars] at h
    split at h
    · rename_i x m h1 h2
      cases h
      obtain ⟨k1, k2⟩ := ofScalars_rel (F := F) h2
      refine ⟨by simp [k1], ?_⟩
      intro i a b ha hb
      cases i with
      | zero => simp at ha hb; subst ha; subst hb; exact (ofScalar_rel h1).1
      | succ i => simp at ha hb; exact k2 i a b ha hb
    · cases h
theorem ofValue_rel {F : Nat → Nat → Option Value} {v : Value} {x : FV} (h : FV.ofValue v = some x) : RelF F x v := by
  unfold FV.ofValue at h
  split at h
  · rename_i cs
    split at h
    · rename_i l hl
      cases h
      obtain ⟨k1, k2⟩ := ofScalars_rel (F := F) hl
      have := RelF.agg (F := F) l cs.toList k1 k2
      simpa using this
    · cases h
  · exact (ofScalar_rel h).1
theorem opnd_rel {N : Nat} {G : Gh} {env : Env} {a : Act} (hE : EnvRel N G env a.tmps) {x : Operand} {v : AV} (h : opnd env x = some v) : RelA G v (a.eval x) := by
  cases x with
  | tmp t => simp [opnd] at h; subst h; exact hE.get t
  | const c =>
    simp only [opnd] at h
    split at h
    · rename_i y hy; cases h; exact .c (ofValue_rel hy)
    · cases h
  | global g => simp [opnd] at h; subst h; exact .gref g
  | func f => simp [opnd] at h; subst h; exact .c (.fn f)
theorem opnds_rel {N : Nat} {G : Gh} {env : Env} {a : Act} (hE : EnvRel N G env a.tmps) : ∀ {xs : List Operand} {l : List AV}, opnds env xs = some l →
    RelL G l (xs.map a.eval)
  | [], l, h => by simp [opnds] at h; subst h; exact ⟨rfl, fun i a b h => by simp at h⟩
  | x :: r, l, h => by
    simp only [opnds] at h
    split at h
    · rename_i v m h1 h2
      cases h
      have ih := opnds_rel hE h2
      refine ⟨by simp [ih.len], ?_⟩
      intro i a b ha hb
      cases i with
      | zero => simp at ha hb; subst ha; subst hb; exact opnd_rel hE h1
      | succ i => simp at ha hb; exact ih.rel i a b ha (by simpa using hb)
    · cases h
theorem partsA_rel {N : Nat} {G : Gh} {env : Env} {a : Act} (hE : EnvRel N G env a.tmps) : ∀ {xs : List (Nat × Operand)} {l : List (Nat × AV)}, partsA env xs = some l →
    l.length = xs.length ∧ ∀ (i : Nat) (p : Nat × AV) (q : Nat × Operand), l[i]? = some p → xs[i]? = some q → p.1 = q.1 ∧ RelA G p.2 (a.eval q.2)
  | [], l, h => by simp [partsA] at h; subst h; exact ⟨rfl, fun i a b h => by simp at h⟩
  | (k, x) :: r, l, h => by
    simp only [partsA] at h
    split at h
    · rename_i v m h1 h2
      cases h
      obtain ⟨k1, k2⟩ := partsA_rel hE h2
      refine ⟨by simp [k1], ?_⟩
      intro i p q hp hq
      cases i with
      | zero => simp at hp hq; subst hp; subst hq; exact ⟨rfl, opnd_rel hE h1⟩
      | succ i => simp at hp hq; exact k2 i p q hp hq
    · cases h
theorem allPure_spec : ∀ {cs : List AV} {l : List FV}, allPure cs = some l → cs = l.map .c
  | [], l, h => by simp [allPure] at h; subst h; rfl
  | .c v :: r, l, h => by
    simp only [allPure] at h
    split at h
    · rename_i m hm; cases h; simp [allPure_spec hm]
    · cases h
  | .ref _ _ :: _, _, h | .fref _ _ :: _, _, h | .gref _ :: _, _, h | .sl _ _ _ _ _ :: _, _, h | .fz _ _ :: _, _, h | .map _ :: _, _, h | .iter _ :: _, _, h
  | .clo _ _ _ :: _, _, h | .iface _ _ :: _, _, h | .agg _ :: _, _, h | .tup _ :: _, _, h | .undef :: _, _, h => by simp [allPure] at h
theorem relA_c {G : Gh} {v : FV} {x : Value} (h : RelA G (.c v) x) : RelF G.F v x := by cases h; assumption
theorem relL_c {G : Gh} {l : List FV} {vs : List Value} (h : RelL G (l.map .c) vs) (i : Nat) (a : FV) (b : Value) (ha : l[i]? = some a) (hb : vs[i]? = some b) : RelF G.F a b :=
  relA_c (h.rel i (.c a) b (by simp [ha]) hb)
theorem mkAgg_rel {G : Gh} {cs : List AV} {vs : List Value} (h : RelL G cs vs) : RelA G (mkAgg cs) (.agg vs.toArray) := by
  unfold mkAgg
  split
  · rename_i l hl
    have := allPure_spec hl
    subst this
    exact .c (.agg l vs (by simpa using h.len) (relL_c h))
  · exact .agg h.len h.rel
theorem scalar_one {G : Gh} {v : AV} {x : Value} (h : RelA G v x) (hs : v.scalar = true) : oneCell x = true := by
  cases h with
  | c h => cases h <;> first | rfl | simp [AV.scalar] at hs
  | agg => simp [AV.scalar] at hs
  | tup => simp [AV.scalar] at hs
  | undef => simp [AV.scalar] at hs
  | _ => rfl
theorem one_cells {x : Value} (h : oneCell x = true) : x.cells = #[x] := by cases x <;> first | rfl | simp [oneCell] at h
theorem cells_rel {G : Gh} {v : AV} {x : Value} (h : RelA G v x) (hs : v.cells.all AV.scalar = true) : RelL G v.cells x.cells.toList ∧ x.cells.toList.all oneCell = true := by
  have single : v.cells = [v] → RelL G v.cells x.cells.toList ∧ x.cells.toList.all oneCell = true := fun e => by
    rw [e] at hs ⊢
    have h1 := scalar_one h (by simpa using hs)
    rw [one_cells h1]
    refine ⟨⟨rfl, ?_⟩, by simp [h1]⟩
    intro i a b ha hb
    cases i with
    | zero => simp at ha hb; subst ha; subst hb; exact h
    | succ i => simp at ha
  have list : ∀ {cs : List AV} {vs : List Value}, v.cells = cs → x.cells.toList = vs → RelL G cs vs → RelL G v.cells x.cells.toList ∧ x.cells.toList.all oneCell = true := fun {cs vs} e1 e2 hr => by
    rw [e1] at hs
    rw [e1, e2]
    refine ⟨hr, List.all_eq_true.2 fun y hy => ?_⟩
    obtain ⟨i, hi, hy'⟩ := List.mem_iff_getElem.1 hy
    have hic : i < cs.length := by rw [hr.len]; exact hi
    have h1 := hr.rel i cs[i] vs[i] (by simp [hic]) (by simp [hi])
    rw [← hy']
    exact scalar_one h1 (List.all_eq_true.1 hs _ (List.getElem_mem hic))
  cases h with
  | @c v x hf =>
    cases hf with
    | agg cs vs hl hr =>
      refine list (cs := cs.map .c) (vs := vs) rfl (by simp [Value.cells]) ⟨by simpa using hl, ?_⟩
      intro i a b ha hb
      simp only [List.getElem?_map, Option.map_eq_some_iff] at ha
      obtain ⟨a', ha', rfl⟩ := ha
      exact .c (hr i a' b ha' hb)
    | _ => exact single rfl
  | agg hl hr => exact list rfl (by simp [Value.cells]) ⟨hl, hr⟩
  | _ => exact single rfl
theorem relL_take {G : Gh} {cs : List AV} {vs : List Value} (h : RelL G cs vs) (off n : Nat) : RelL G ((cs.drop off).take n) ((vs.drop off).take n) := by
  refine ⟨by simp [h.len], ?_⟩
  intro i a b ha hb
  rw [List.getElem?_take] at ha hb
  split at ha
  · rename_i hi
    rw [if_pos hi] at hb
    rw [List.getElem?_drop] at ha hb
    exact h.rel _ a b ha hb
  · cases ha
theorem relL_append {G : Gh} {cs ds : List AV} {vs us : List Value} (h : RelL G cs vs) (k : RelL G ds us) : RelL G (cs ++ ds) (vs ++ us) := by
  refine ⟨by simp [h.len, k.len], ?_⟩
  intro i a b ha hb
  rw [List.getElem?_append] at ha hb
  rw [h.len] at ha
  split at ha
  · rename_i hi; rw [if_pos hi] at hb; exact h.rel i a b ha hb
  · rename_i hi; rw [if_neg hi] at hb; exact k.rel _ a b ha hb
theorem relL_cell {G : Gh} {cs : List AV} {vs : List Value} (h : RelL G cs vs) {i : Nat} {a : AV} (ha : cs[i]? = some a) : ∃ v, vs[i]? = some v ∧ RelA G a v := by
  have hi : i < cs.length := (List.getElem?_eq_some_iff.1 ha).1
  have hi' : i < vs.length := by rw [← h.len]; exact hi
  exact ⟨vs[i], by simp [hi'], h.rel i a vs[i] ha (by simp [hi'])⟩
theorem partOf_cases {P : Program} {T : TypeId} {cs : List AV} {off : Nat} {v : AV} (h : partOf P T cs off = some v) :
    (∃ n, isAggT P T = some true ∧ szT P T = some n ∧ off + n ≤ cs.length ∧ v = mkAgg ((cs.drop off).take n)) ∨
    (∃ n, isAggT P T = some false ∧ szT P T = some n ∧ cs[off]? = some v) := by
  unfold partOf at h
  split at h
  · rename_i n h1 h2
    cases hb : Nat.ble (off + n) cs.length with
    | true =>
      rw [hb] at h
      simp at h
      exact .inl ⟨n, h1, h2, Nat.le_of_ble_eq_true hb, h.symm⟩
    | false => rw [hb] at h; simp at h
  · rename_i n h1 h2
    exact .inr ⟨n, h1, h2, h⟩
  · cases h
theorem run_part {P : Program} {G : Gh} {T : TypeId} {cs : List AV} {vs : List Value} {off : Nat} {v : AV} (h : partOf P T cs off = some v) (hr : RelL G cs vs) (w : World) :
    ∃ x, Sem.run P (part T vs.toArray off) w = .ok x w ∧ RelA G v x := by
  rcases partOf_cases h with ⟨n, h1, h2, h3, rfl⟩ | ⟨n, h1, h2, h3⟩
  · refine ⟨.agg ((vs.drop off).take n).toArray, ?_, mkAgg_rel (relL_take hr off n)⟩
    have : vs.toArray.extract off (off + n) = ((vs.drop off).take n).toArray := by
      apply Array.ext'
      simp [List.extract_eq_take_drop]
    simp [part, run_isAgg P h1, run_sizeOf P h2]
  · obtain ⟨x, hx, hrx⟩ := relL_cell hr h3
    refine ⟨x, ?_, hrx⟩
    simp [part, run_isAgg P h1, hx]
theorem run_loadVar {P : Program} {G : Gh} {T : TypeId} {cs : List AV} {off g o : Nat} {v : AV} {w : World} (h : partOf P T cs off = some v)
    (hr : ∀ (i : Nat) (a : AV), cs[i]? = some a → ∃ x, w.cell? ⟨g, o + i, none⟩ = some x ∧ RelA G a x) :
    ∃ x, Sem.run P (loadVar T ⟨g, o + off, none⟩) w = .ok x w ∧ RelA G v x := by
  rcases partOf_cases h with ⟨n, h1, h2, h3, rfl⟩ | ⟨n, h1, h2, h3⟩
  ·
    have hex : ∀ k, k ≤ n → ∃ vs : List Value, vs.length = k ∧ RelL G ((cs.drop off).take k) vs ∧ ∀ j v, vs[j]? = some v → w.cell? ⟨g, o + off + j, none⟩ = some v := by
      intro k
      induction k with
      | zero => intro _; exact ⟨[], rfl, ⟨by simp, fun i a b ha => by simp at ha⟩, fun j v hj => by simp at hj⟩
      | succ k ih =>
        intro hk
        obtain ⟨vs, k1, k2, k3⟩ := ih (by omega)
        have hlt : off + k < cs.length := by omega
        obtain ⟨x, hx, hrx⟩ := hr (off + k) cs[off + k] (by simp [hlt])
        refine ⟨vs ++ [x], by simp [k1], ?_, ?_⟩
        · have e : (cs.drop off).take (k + 1) = (cs.drop off).take k ++ [cs[off + k]] := by
            rw [List.take_succ_eq_append_getElem (by simp; omega)]
            simp
          rw [e]
          exact relL_append k2 ⟨rfl, fun i a b ha hb => by
            cases i with
            | zero => simp at ha hb; subst ha; subst hb; exact hrx
            | succ i => simp at ha⟩
        · intro j v hj
          rw [List.getElem?_append] at hj
          split at hj
          · exact k3 j v hj
          · rename_i hge
            have : j = k := by
              rcases Nat.lt_or_ge (j - vs.length) 1 with h0 | h0
              · omega
              · rw [List.getElem?_eq_none (by simpa using h0)] at hj; cases hj
            subst this
            simp [k1] at hj
            subst hj
            rw [Nat.add_assoc]; exact hx
    obtain ⟨vs, k1, k2, k3⟩ := hex n (Nat.le_refl _)
    refine ⟨.agg vs.toArray, ?_, mkAgg_rel k2⟩
    have := run_loadCells P (w := w) (g := g) (o := o + off) vs k3
    rw [k1] at this
    simp [loadVar, run_isAgg P h1, run_sizeOf P h2, this]
  · obtain ⟨x, hx, hrx⟩ := hr off v h3
    refine ⟨x, ?_, hrx⟩
    have hx' : w.cell? ⟨g, o + off, none⟩ = some x := hx
    simp [loadVar, run_isAgg P h1, hx']
end Go.Abs

namespace Go.Abs
theorem setRange_get (cs : List AV) (off : Nat) (vs : List AV) (h : off + vs.length ≤ cs.length) (i : Nat) :
    (setRange cs off vs)[i]? = if off ≤ i ∧ i < off + vs.length then vs[i - off]? else cs[i]? := by
  unfold setRange
  have h1 : (cs.take off).length = off := by simp; omega
  by_cases a : i < off
  · rw [if_neg (by omega), List.append_assoc, List.getElem?_append, if_pos (by rw [h1]; exact a), List.getElem?_take, if_pos a]
  · by_cases b : i < off + vs.length
    · rw [if_pos ⟨by omega, b⟩, List.append_assoc, List.getElem?_append, if_neg (by rw [h1]; exact a), h1, List.getElem?_append, if_pos (by omega)]
    · rw [if_neg (by omega), List.append_assoc, List.getElem?_append, if_neg (by rw [h1]; exact a), h1, List.getElem?_append, if_neg (by omega), List.getElem?_drop]
      congr 1
      omega
theorem setRange_length (cs : List AV) (off : Nat) (vs : List AV) (h : off + vs.length ≤ cs.length) : (setRange cs off vs).length = cs.length := by
  simp [setRange]; omega
theorem inv_write {P : Program} {G : Gh} {S : St} {w : World} (h : Inv G S w) {b ro off : Nat} {T : TypeId} {cs aq : List AV} {B : Base} {vs : List Value}
    (hb : S.get b = some (.blk cs ro T)) (hB : G.ρ b = some B) (hr : RelL G aq vs) (h1 : vs.all oneCell = true) (hro : ro ≤ off) (hlen : off + aq.length ≤ cs.length) :
    ∃ w', Sem.run P (storeCells ⟨B.g, B.o + off, none⟩ vs) w = .ok () w' ∧ Inv G (S.put b (.blk (setRange cs off aq) ro T)) w' ∧ Ext G S w G (S.put b (.blk (setRange cs off aq) ro T)) w' := by
  obtain ⟨B', hB', hkn, hroom, C, lo, hi, hC, hsz, hcell, hfz, hFz⟩ := h.obs b _ hb rfl
  rw [hB] at hB'
  cases hB'
  have hg : B.g < w.heap.size := (Array.getElem?_eq_some_iff.1 hC).1
  have hl : vs.length = aq.length := hr.len.symm
  have hrun := run_storeCells P vs (B.o + off) 0 C w hC (by omega) (fun j h1 h2 => hfz j (by omega) (by omega)) h1
  rw [Nat.add_zero] at hrun
  have hget : ∀ j, (overL C (B.o + off) vs)[j]? = if B.o + off ≤ j ∧ j < B.o + off + vs.length then vs[j - (B.o + off)]? else C[j]? :=
    fun j => overL_get vs (B.o + off) C j (by omega)
  obtain ⟨k1, k2⟩ := inv_upd h hb rfl (ob := .blk (setRange cs off aq) ro T) rfl hB (.cells (overL C (B.o + off) vs) T (lo, hi)) (by
    refine ⟨by rw [setRange_length _ _ _ hlen]; exact hkn, by rw [setRange_length _ _ _ hlen]; exact hroom, _, lo, hi, wh_set_eq hg, by rw [overL_size]; exact hsz, ?_, hfz, hFz⟩
    intro i a ha
    rw [setRange_get _ _ _ hlen] at ha
    rw [hget]
    split at ha
    · rename_i hi'
      obtain ⟨x, hx, hrx⟩ := relL_cell hr ha
      refine ⟨x, ?_, hrx, ?_⟩
      · rw [if_pos (by omega)]
        have : B.o + i - (B.o + off) = i - off := by omega
        rw [this]; exact hx
      · exact List.all_eq_true.1 h1 x (List.mem_of_getElem? hx)
    · rename_i hi'
      rw [if_neg (by omega)]
      exact hcell i a ha) (by
    intro j v hj
    have := h.cells _ _ _ hj
    rw [cell_at hC] at this
    rw [cell_at (wh_set_eq hg), hget, if_neg (by have := hFz j v hj; omega)]
    exact this)
  exact ⟨_, hrun, k1, k2⟩
theorem Inv.marked {G : Gh} {S : St} {w : World} (h : Inv G S w) (b : Nat) : Inv G (S.mark b) w :=
  h
theorem Ext.marked {G G' : Gh} {S S' : St} {w w' : World} (h : Ext G S w G' S' w') (b : Nat) : Ext G S w G' (S'.mark b) w' :=
  h
theorem store_sound {P : Program} {G : Gh} {S : St} {w : World} (h : Inv G S w) {t : TypeId} {a v : AV} {xa xv : Value} {cm : List Cmd} (he : aStore P t a v S = some cm)
    (ha : RelA G a xa) (hv : RelA G v xv) : ∃ w', Sem.run P (Instr.storeAt t xa xv) w = .ok () w' ∧ Inv G (S.run cm) w' ∧ Ext G S w G (S.run cm) w' := by
  unfold aStore at he
  split at he
  · rename_i b off
    split at he
    · rename_i cs ro T n hb hn
      split at he
      · rename_i hc
        obtain ⟨c1, c2, c3, c4⟩ := hc
        cases ha with
        | @ref _ _ B hB =>
          obtain ⟨r1, r2⟩ := cells_rel hv c2
          have hlen : xv.cells.size = n := by have := r1.len; simp only [Array.length_toList] at this; omega
          obtain ⟨w', k1, k2, k3⟩ := inv_write (P := P) h hb hB r1 r2 c4 (by omega)
          refine ⟨w', ?_, ?_⟩
          · simp [Instr.storeAt, Instr.sureAddr, storeVar, run_sizeOf P hn, hlen, k1]
          · simp only [Option.some.injEq] at he
            subst he
            exact ⟨k2, k3⟩
      · cases he
    · cases he
  · cases he
theorem run_newVar (P : Program) (t : TypeId) (v : Value) (w : World) :
    Sem.run P (newVar t v) w = .ok ⟨w.heap.size, 0, none⟩ (wh w (w.heap.push (.cells v.cells t))) := by
  simp [newVar, newRow, newObj, Sem.run, wh]
theorem new_sound {P : Program} {G : Gh} {S : St} {w : World} (h : Inv G S w) {t : TypeId} {v : AV} {xv : Value} {r : AV × List Cmd} (he : aNew P t v S = some r)
    (hv : RelA G v xv) : ∃ G' w', Sem.run P (newVar t xv) w = .ok ⟨w.heap.size, 0, none⟩ w' ∧ RelA G' r.1 (.pointer (some ⟨w.heap.size, 0, none⟩)) ∧ Inv G' (S.run r.2) w' ∧ Ext G S w G' (S.run r.2) w' := by
  unfold aNew at he
  split at he
  · rename_i hs
    simp only [Option.some.injEq] at he
    subst he
    obtain ⟨r1, r2⟩ := cells_rel hv hs
    obtain ⟨G', k1, k2, k3⟩ := inv_new_blk h v.cells 0 xv.cells.toList t 0 0 (by rw [r1.len]; exact Nat.le_refl _) (fun i a ha => by
      obtain ⟨x, hx, hrx⟩ := relL_cell r1 ha
      exact ⟨x, hx, hrx, List.all_eq_true.1 r2 x (List.mem_of_getElem? hx)⟩) (by intro j _; omega)
    refine ⟨G', _, run_newVar P t xv w, ?_, by simpa [St.run, St.cmd] using k1, by simpa [St.run, St.cmd] using k2⟩
    have := RelA.ref (G := G') (b := S.next) (off := 0) k3
    simpa using this
  · cases he
theorem load_sound {P : Program} {G : Gh} {S : St} {w : World} (h : Inv G S w) {t : TypeId} {a v : AV} {xa : Value} (he : aLoad P t a S = some v)
    (ha : RelA G a xa) : ∃ x, Sem.run P (Instr.loadAt t xa) w = .ok x w ∧ RelA G v x := by
  unfold aLoad at he
  split at he
  · rename_i b off
    split at he
    · rename_i cs ro T hb
      cases ha with
      | @ref _ _ B hB =>
        obtain ⟨B', hB', hkn, hroom, C, lo, hi, hC, hsz, hcell, hfz, hFz⟩ := h.obs b _ hb rfl
        rw [hB] at hB'
        cases hB'
        obtain ⟨x, k1, k2⟩ := run_loadVar (P := P) (G := G) (w := w) (g := B.g) (o := B.o) he (fun i a ha => by
          obtain ⟨y, y1, y2, _⟩ := hcell i a ha
          exact ⟨y, by rw [cell_at hC]; exact y1, y2⟩)
        exact ⟨x, by simp [Instr.loadAt, Instr.sureAddr, k1], k2⟩
    · cases he
  · rename_i e off
    cases ha with
    | @fref _ _ g o vals hF hR =>
      obtain ⟨x, k1, k2⟩ := run_loadVar (P := P) (G := G) (w := w) (g := g) (o := o) he (fun i a ha => by
        simp only [List.getElem?_map, Option.map_eq_some_iff] at ha
        obtain ⟨a', ha', rfl⟩ := ha
        exact ⟨vals i, h.cells _ _ _ (hF i a' ha'), .c (hR i a' ha')⟩)
      exact ⟨x, by simp [Instr.loadAt, Instr.sureAddr, k1], k2⟩
  · cases he
theorem run_zeroValue (P : Program) {T : TypeId} {z : FV} (h : zeroT P T = some z) (F : Nat → Nat → Option Value) (w : World) :
    ∃ v, Sem.run P (zeroValue T) w = .ok v w ∧ RelF F z v := by
  unfold zeroT at h
  split at h
  · rename_i i hi
    split at h
    · rename_i v hv
      exact ⟨v, by simp [zeroValue, run_typeInfo P hi, hv], ofValue_rel h⟩
    · cases h
  · cases h
theorem alloc_sound {P : Program} {G : Gh} {S : St} {w : World} (h : Inv G S w) {t : TypeId} {z : FV} {r : AV × List Cmd} (hz : zeroT P t = some z) (he : aNew P t (.c z) S = some r) :
    ∃ x G' w', Sem.run P (Instr.alloc t true (.tuple #[])) w = .ok x w' ∧ RelA G' r.1 x ∧ Inv G' (S.run r.2) w' ∧ Ext G S w G' (S.run r.2) w' := by
  obtain ⟨v, hv, hr⟩ := run_zeroValue P hz G.F w
  obtain ⟨G', w', k1, k2, k3, k4⟩ := new_sound (P := P) h he (.c hr)
  exact ⟨_, G', w', by simp [Instr.alloc, hv, k1], k2, k3, k4⟩
theorem fieldT_spec {P : Program} {T X : TypeId} {f d : Nat} (h : fieldT P T f = some (X, d)) : ∃ fs x, P.underlying T = some (.struct fs) ∧ fs[f]? = some x ∧ x.type = X ∧ x.offset = d := by
  unfold fieldT at h
  split at h
  · rename_i fs hu
    split at h
    · rename_i x hx
      simp at h
      exact ⟨fs, x, hu, hx, h.1, h.2⟩
    · cases h
  · cases h
theorem fieldAt_run {P : Program} {T X : TypeId} {f d n g o : Nat} (h : fieldT P T f = some (X, d)) (hn : szT P X = some (n + 1)) (w : World) :
    Sem.run P (Instr.fieldAt T (.pointer (some ⟨g, o, none⟩)) f) w = .ok (.pointer (some ⟨g, o + d, none⟩)) w := by
  obtain ⟨fs, x, h1, h2, h3, h4⟩ := fieldT_spec h
  subst h3; subst h4
  simp [Instr.fieldAt, run_underlying P h1, h2, Instr.sureAddr, fieldPlace, run_sizeOf P hn, Addr_add]
theorem field_sound {P : Program} {G : Gh} {T X : TypeId} {f d : Nat} {cs : List AV} {vs : List Value} {v : AV} (h : fieldT P T f = some (X, d)) (he : partOf P X cs d = some v)
    (hr : RelL G cs vs) (w : World) : ∃ x, Sem.run P (Instr.field T (.agg vs.toArray) f) w = .ok x w ∧ RelA G v x := by
  obtain ⟨fs, x, h1, h2, h3, h4⟩ := fieldT_spec h
  subst h3; subst h4
  obtain ⟨y, k1, k2⟩ := run_part (P := P) he hr w
  exact ⟨y, by simp [Instr.field, run_underlying P h1, h2, asAgg, k1], k2⟩
theorem agg_rel_of {G : Gh} {l : List FV} {x : Value} (h : RelA G (.c (.agg l)) x) : ∃ vs : List Value, x = .agg vs.toArray ∧ RelL G (l.map .c) vs := by
  cases relA_c h with
  | agg cs vs hl hr =>
    refine ⟨vs, rfl, by simpa using hl, ?_⟩
    intro i a b ha hb
    simp only [List.getElem?_map, Option.map_eq_some_iff] at ha
    obtain ⟨a', ha', rfl⟩ := ha
    exact .c (hr i a' b ha' hb)
end Go.Abs

namespace Go.Abs
theorem flatF_get {s : Nat} : ∀ {xs : List FV} {i j : Nat} {e a : FV}, (∀ x ∈ xs, x.cells.length = s) → xs[i]? = some e → e.cells[j]? = some a → (flatF xs)[i * s + j]? = some a
  | [], i, j, e, a, _, h, _ => by simp at h
  | x :: r, 0, j, e, a, hs, h, hj => by
    simp at h; subst h
    have hl : j < x.cells.length := (List.getElem?_eq_some_iff.1 hj).1
    simp only [flatF, Nat.zero_mul, Nat.zero_add]
    rw [List.getElem?_append, if_pos hl]; exact hj
  | x :: r, i + 1, j, e, a, hs, h, hj => by
    have hx := hs x (by simp)
    simp only [flatF]
    rw [List.getElem?_append, if_neg (by rw [hx, Nat.add_mul]; omega)]
    have ih := flatF_get (s := s) (fun y hy => hs y (by simp [hy])) (by simpa using h : r[i]? = some e) hj
    rw [← ih, hx]
    congr 1
    rw [Nat.add_mul]; omega
theorem indexAt_slice_run {P : Program} {t e : TypeId} {s len cap : Nat} {k : IntKind} {i : Int} {g o : Nat} (hu : P.underlying t = some (.slice e)) (hs : szT P e = some s)
    (h0 : 0 ≤ i) (h1 : i.toNat < len) (w : World) :
    Sem.run P (Instr.indexAt t (.slice (some ⟨g, o, none⟩) len cap) (.int k i)) w = .ok (.pointer (some ⟨g, o + i.toNat * s, none⟩)) w := by
  have : i < (len : Int) := by omega
  simp [Instr.indexAt, asIntOf, run_underlying P hu, run_sizeOf P hs, h0, this, Addr_add]
theorem indexAt_array_run {P : Program} {t e : TypeId} {s n : Nat} {k : IntKind} {i : Int} {g o : Nat} (hu : P.underlying t = some (.array n e)) (hs : szT P e = some s)
    (h0 : 0 ≤ i) (h1 : i.toNat < n) (w : World) :
    Sem.run P (Instr.indexAt t (.pointer (some ⟨g, o, none⟩)) (.int k i)) w = .ok (.pointer (some ⟨g, o + i.toNat * s, none⟩)) w := by
  have : i < (n : Int) := by omega
  simp [Instr.indexAt, asIntOf, run_underlying P hu, run_sizeOf P hs, h0, this, Addr_add, Instr.sureAddr]
theorem fref_of_row {G : Gh} {xs : List FV} {g o s s' : Nat} {vals : Nat → Value} {i : Nat} {e : FV} (hs : ∀ x ∈ xs, x.cells.length = s) (hs' : ∀ x ∈ xs, x.cells.length = s')
    (hF : ∀ (i : Nat) (a : FV), (flatF xs)[i]? = some a → G.F g (o + i) = some (vals i)) (hR : ∀ (i : Nat) (a : FV), (flatF xs)[i]? = some a → RelF G.F a (vals i))
    (he : xs[i]? = some e) : RelA G (.fref e 0) (.pointer (some ⟨g, o + i * s, none⟩)) := by
  have hm : e ∈ xs := List.mem_of_getElem? he
  have := RelA.fref (G := G) (e := e) (off := 0) (g := g) (o := o + i * s) (vals := fun j => vals (i * s + j))
    (fun j a hj => by rw [Nat.add_assoc]; exact hF _ a (flatF_get hs he hj)) (fun j a hj => hR _ a (flatF_get hs he hj))
  simpa using this
theorem indexAddr_sound {P : Program} {G : Gh} {t : TypeId} {x i v : AV} {xx xi : Value} (he : aIndexAddr P t x i = some v) (hx : RelA G x xx) (hi : RelA G i xi) (w : World) :
    ∃ y, Sem.run P (Instr.indexAt t xx xi) w = .ok y w ∧ RelA G v y := by
  unfold aIndexAddr at he
  split at he
  · rename_i k n
    cases relA_c hi
    split at he
    · cases he
    · rename_i hn
      have h0 : 0 ≤ n := by omega
      split at he
      · rename_i e hu
        split at he
        · rename_i s hs
          split at he
          · rename_i xs
            split at he
            · rename_i hc
              simp only [Option.map_eq_some_iff] at he
              obtain ⟨el, hel, rfl⟩ := he
              have hsz := allSize_iff.1 hc.2
              cases relA_c hx with
              | sl0 a cap => simp at hc
              | slN => simp at hc
              | sl _ g o s' cap vals hs' hcap hF hR ho =>
                refine ⟨_, indexAt_slice_run hu hs h0 hc.1 w, ?_⟩
                exact fref_of_row hsz hs' hF hR hel
            · cases he
          · rename_i tag xs
            split at he
            · rename_i hc
              simp only [Option.map_eq_some_iff] at he
              obtain ⟨el, hel, rfl⟩ := he
              have hsz := allSize_iff.1 hc.2
              cases hx with
              | fz hτ hcap hs0 hs' hF hR ho =>
                refine ⟨_, indexAt_slice_run hu hs h0 hc.1 w, ?_⟩
                exact fref_of_row hsz hs' hF hR hel
            · cases he
          · rename_i b off len s' full
            split at he
            · rename_i hc
              obtain ⟨hc1, hc2⟩ := hc
              subst hc1
              simp at he; subst he
              cases hx with
              | @sl _ _ _ _ _ B a cap hB ha hl hr hf hk =>
                have hcap : cap ≠ 0 := by omega
                rw [ha hcap]
                refine ⟨_, indexAt_slice_run hu hs h0 hc2 w, ?_⟩
                have := RelA.ref (G := G) (b := b) (off := off + n.toNat * s') hB
                simpa [Nat.add_assoc] using this
            · cases he
          · cases he
        · cases he
      · rename_i len e hu
        split at he
        · rename_i s hs
          split at he
          · rename_i hlt
            split at he
            · rename_i b off
              simp at he; subst he
              cases hx with
              | @ref _ _ B hB =>
                refine ⟨_, indexAt_array_run hu hs h0 hlt w, ?_⟩
                have := RelA.ref (G := G) (b := b) (off := off + n.toNat * s) hB
                simpa [Nat.add_assoc] using this
            · rename_i e off
              simp at he; subst he
              cases hx with
              | @fref _ _ g o vals hF hR =>
                refine ⟨_, indexAt_array_run hu hs h0 hlt w, ?_⟩
                have := RelA.fref (G := G) (e := e) (off := off + n.toNat * s) hF hR
                simpa [Nat.add_assoc] using this
            · cases he
          · cases he
        · cases he
      · cases he
  · cases he
theorem str_get (s : ByteArray) (i : Nat) : s[i]? = s.data.toList[i]? := by
  rw [Array.getElem?_toList]
  rfl
theorem index_sound {P : Program} {G : Gh} {t : TypeId} {x i v : AV} {xx xi : Value} (he : aIndex P t x i = some v) (hx : RelA G x xx) (hi : RelA G i xi) (w : World) :
    ∃ y, Sem.run P (Instr.index t xx xi) w = .ok y w ∧ RelA G v y := by
  unfold aIndex at he
  split at he
  · rename_i k n
    cases relA_c hi
    split at he
    · cases he
    · rename_i hn
      have h0 : 0 ≤ n := by omega
      split at he
      · rename_i hu
        split at he
        · rename_i s
          simp only [Option.map_eq_some_iff] at he
          obtain ⟨b, hb, rfl⟩ := he
          cases relA_c hx with
          | str s =>
            rw [← str_get] at hb
            refine ⟨.int .u8 b.toNat, ?_, .c (.int _ _)⟩
            simp [Instr.index, asIntOf, run_underlying P hu, h0, hb]
        · cases he
      · rename_i len e hu
        split at he
        · rename_i s cs hs
          split at he
          · rename_i hlt
            obtain ⟨vs, rfl, hr⟩ := agg_rel_of hx
            obtain ⟨y, k1, k2⟩ := run_part (P := P) he hr w
            have : n < (len : Int) := by omega
            exact ⟨y, by simp [Instr.index, asIntOf, run_underlying P hu, h0, this, run_sizeOf P hs, k1], k2⟩
          · cases he
        · rename_i s cs hs
          split at he
          · rename_i hlt
            cases hx with
            | agg hl hr =>
              obtain ⟨y, k1, k2⟩ := run_part (P := P) he ⟨hl, hr⟩ w
              have : n < (len : Int) := by omega
              exact ⟨y, by simp [Instr.index, asIntOf, run_underlying P hu, h0, this, run_sizeOf P hs, k1], k2⟩
          · cases he
        · cases he
      · cases he
  · cases he
end Go.Abs

namespace Go.Abs
theorem eqGuard_int {P : Program} (op : BinOp) (t : TypeId) (x y : Operand) (k k' : IntKind) (a b : Int) (w : World) :
    Sem.run P (eqGuard op t x y (.int k a) (.int k' b)) w = .ok () w := by
  cases op <;> simp [eqGuard]
theorem eqGuard_str {P : Program} (op : BinOp) (t : TypeId) (x y : Operand) (a b : ByteArray) (w : World) :
    Sem.run P (eqGuard op t x y (.string a) (.string b)) w = .ok () w := by
  cases op <;> simp [eqGuard]
theorem aInt_sound {P : Program} {op : BinOp} {k k' : IntKind} {a b : Int} {r : FV} (h : aInt op k a k' b = some r) (t : TypeId) (F : Nat → Nat → Option Value) (w : World) :
    ∃ x, Sem.run P (binOp op t (.int k a) (.int k' b)) w = .ok x w ∧ RelF F r x := by
  unfold aInt at h
  split at h
  · split at h
    · cases h
    · rename_i hb
      cases h
      refine ⟨_, ?_, .int _ _⟩
      simp [binOp, Op.shift, hb]
  · split at h
    · cases h
    · rename_i hb
      cases h
      refine ⟨_, ?_, .int _ _⟩
      simp [binOp, Op.shift, hb]
  · split at h
    · cases h
    · rename_i hk
      have hk' : k = k' := by simpa using hk
      subst hk'
      split at h <;> first
        | (cases h; refine ⟨_, ?_, .int _ _⟩; simp [binOp, Op.intArith, Op.intBits]; done)
        | (cases h; refine ⟨_, ?_, .bool _⟩; simp [binOp, Op.intCmp]; done)
        | (split at h
           · cases h
           · rename_i hb
             cases h
             refine ⟨_, ?_, .int _ _⟩
             simp [binOp, Op.intDiv, hb])
        | cases h
theorem strAppend (a b : ByteArray) : (a ++ b).data.toList = a.data.toList ++ b.data.toList := by
  simp [ByteArray.data_append]
theorem aStr_sound {P : Program} {op : BinOp} {a b : ByteArray} {r : FV} (h : aStr op a.data.toList b.data.toList = some r) (t : TypeId) (F : Nat → Nat → Option Value) (w : World) :
    ∃ x, Sem.run P (binOp op t (.string a) (.string b)) w = .ok x w ∧ RelF F r x := by
  have e1 := ByteArray.toList_eq a
  have e2 := ByteArray.toList_eq b
  unfold aStr at h
  cases op <;> simp only at h <;> first
    | (cases h; done)
    | (split at h
       · rename_i hl
         cases h
         refine ⟨.string (a ++ b), ?_, by rw [← strAppend]; exact .str _⟩
         have hle : ¬ (((a.size + b.size : Nat) : Int) > IntKind.i64.max) := by
           have h1 : a.size = a.data.toList.length := by rw [Array.length_toList]; rfl
           have h2 : b.size = b.data.toList.length := by rw [Array.length_toList]; rfl
           have h3 : IntKind.i64.max = 9223372036854775807 := by decide
           rw [h3]
           unfold maxLenA at hl
           omega
         simp only [binOp, Op.stringOp]
         rw [if_neg hle]
         rfl
       · cases h)
    | (cases h
       refine ⟨_, ?_, .bool _⟩
       simp only [binOp, Op.stringOp, e1, e2]
       rfl)
theorem fpart_rel {P : Program} {F : Nat → Nat → Option Value} {T : TypeId} {cs : List FV} {vs : List Value} {off : Nat} {x : FV} (h : fpart P T cs off = some x)
    (hl : cs.length = vs.length) (hr : ∀ (i : Nat) (a : FV) (b : Value), cs[i]? = some a → vs[i]? = some b → RelF F a b) (w : World) :
    ∃ y, Sem.run P (part T vs.toArray off) w = .ok y w ∧ RelF F x y := by
  unfold fpart at h
  split at h
  · rename_i n h1 h2
    cases hb : Nat.ble (off + n) cs.length with
    | false => rw [hb] at h; simp at h
    | true =>
      rw [hb] at h
      simp at h
      subst h
      refine ⟨.agg ((vs.drop off).take n).toArray, ?_, ?_⟩
      · have : vs.toArray.extract off (off + n) = ((vs.drop off).take n).toArray := by
          apply Array.ext'
          simp [List.extract_eq_take_drop]
        simp [part, run_isAgg P h1, run_sizeOf P h2]
      · refine .agg _ _ (by simp [hl]) ?_
        intro i a b ha hb
        rw [List.getElem?_take] at ha hb
        split at ha
        · rename_i hi
          rw [if_pos hi] at hb
          rw [List.getElem?_drop] at ha hb
          exact hr _ a b ha hb
        · cases ha
  · rename_i n h1 h2
    have hi : off < cs.length := (List.getElem?_eq_some_iff.1 h).1
    have hi' : off < vs.length := by omega
    refine ⟨vs[off], ?_, hr off x vs[off] h (by simp [hi'])⟩
    simp [part, run_isAgg P h1, hi']
  · cases h
theorem feqFields_sound {P : Program} {F : Nat → Nat → Option Value} {d : Nat} (ih : ∀ {t : TypeId} {x y : FV} {vx vy : Value} {b : Bool}, feq P d t x y = some b →
    RelF F x vx → RelF F y vy → ∀ w, Sem.run P (Op.equalIn d t vx vy) w = .ok b w)
    {xs ys : List FV} {vs us : List Value} (hl : xs.length = vs.length) (hr : ∀ (i : Nat) (a : FV) (b : Value), xs[i]? = some a → vs[i]? = some b → RelF F a b)
    (kl : ys.length = us.length) (kr : ∀ (i : Nat) (a : FV) (b : Value), ys[i]? = some a → us[i]? = some b → RelF F a b) (w : World) :
    ∀ {fs : List Field} {b : Bool}, feqFields P (feq P d) xs ys fs = some b → Sem.run P (Op.eqFields d vs.toArray us.toArray fs) w = .ok b w
  | [], b, h => by simp [feqFields] at h; subst h; simp [Op.eqFields]
  | f :: r, b, h => by
    simp only [feqFields] at h
    split at h
    · rename_i hn
      rw [Op.eqFields, if_neg (by simp [hn])]
      exact feqFields_sound ih hl hr kl kr w h
    · rename_i hn
      split at h
      · rename_i x y hx hy
        obtain ⟨vx, r1, r2⟩ := fpart_rel hx hl hr w
        obtain ⟨vy, s1, s2⟩ := fpart_rel hy kl kr w
        rw [Op.eqFields, if_pos hn]
        split at h
        · rename_i he
          simp only [Sem.run_bind, r1, s1, Result.andThen_ok, ih he r2 s2]
          simpa using feqFields_sound ih hl hr kl kr w h
        · rename_i he
          cases h
          simp only [Sem.run_bind, r1, s1, Result.andThen_ok, ih he r2 s2]
          simp
        · cases h
      · cases h
theorem str_beq (a b : ByteArray) : (a == b) = (a.data.toList == b.data.toList) := by
  rw [beq_toListBytes, ByteArray.toList_eq, ByteArray.toList_eq]
theorem feq_sound {P : Program} {F : Nat → Nat → Option Value} : ∀ {d : Nat} {t : TypeId} {x y : FV} {vx vy : Value} {b : Bool}, feq P d t x y = some b →
    RelF F x vx → RelF F y vy → ∀ w, Sem.run P (Op.equalIn d t vx vy) w = .ok b w
  | 0, t, x, y, vx, vy, b, h, _, _, w => by simp [feq] at h
  | d + 1, t, x, y, vx, vy, b, h, hx, hy, w => by
    simp only [feq] at h
    split at h
    · rename_i hu
      split at h
      · cases h; cases hx; cases hy; simp [Op.equalIn, run_underlying P hu]
      · cases h
    · rename_i hu
      split at h
      · split at h
        · rename_i hk
          subst hk
          cases h; cases hx; cases hy; simp [Op.equalIn, run_underlying P hu]
        · cases h
      · cases h
    · rename_i hu
      split at h
      · cases h
        cases hx; cases hy
        simp [Op.equalIn, run_underlying P hu, str_beq]
      · cases h
    · rename_i fs hu
      split at h
      · split at h
        · cases h
        · rename_i hst
          cases hx with
          | agg xs vs hl hr =>
            cases hy with
            | agg ys us kl kr =>
              have hf : P.fieldsOf t = fs := by simp [Program.fieldsOf, hu]
              rw [run_equalIn_struct w d t _ _ (by rw [hf]; exact hu) (by simpa using hst), hf]
              exact feqFields_sound (fun h => feq_sound h) hl hr kl kr w h
      · cases h
    · cases h
section
variable {P : Program} (w : World) (d : Nat) {t : TypeId}
theorem eqI_ptr {e : TypeId} (b : Option Addr) (hu : P.underlying t = some (.pointer e)) : Sem.run P (Op.equalIn (d + 1) t (.pointer none) (.pointer b)) w = .ok b.isNone w := by simp [Op.equalIn, run_underlying P hu]
theorem eqI_same {e : TypeId} {j : TypeInfo} (a : Addr) (hu : P.underlying t = some (.pointer e)) (hj : P.info? e = some j) : Sem.run P (Op.equalIn (d + 1) t (.pointer (some a)) (.pointer (some a))) w = .ok true w := by
  simp [Op.equalIn, run_underlying P hu, sizeOf, typeInfo, hj, sameAddr]
theorem eqI_ptr' {e : TypeId} (a : Addr) (hu : P.underlying t = some (.pointer e)) : Sem.run P (Op.equalIn (d + 1) t (.pointer (some a)) (.pointer none)) w = .ok false w := by simp [Op.equalIn, run_underlying P hu]
theorem eqI_sl {e : TypeId} (b : Option Addr) (n m k l : Nat) (hu : P.underlying t = some (.slice e)) : Sem.run P (Op.equalIn (d + 1) t (.slice none n m) (.slice b k l)) w = .ok b.isNone w := by simp [Op.equalIn, run_underlying P hu]
theorem eqI_sl' {e : TypeId} (a : Addr) (n m k l : Nat) (hu : P.underlying t = some (.slice e)) : Sem.run P (Op.equalIn (d + 1) t (.slice (some a) n m) (.slice none k l)) w = .ok false w := by simp [Op.equalIn, run_underlying P hu]
theorem eqI_map {k e : TypeId} (b : Option Nat) (hu : P.underlying t = some (.map k e)) : Sem.run P (Op.equalIn (d + 1) t (.map none) (.map b)) w = .ok b.isNone w := by simp [Op.equalIn, run_underlying P hu]
theorem eqI_map' {k e : TypeId} (a : Nat) (hu : P.underlying t = some (.map k e)) : Sem.run P (Op.equalIn (d + 1) t (.map (some a)) (.map none)) w = .ok false w := by simp [Op.equalIn, run_underlying P hu]
theorem eqI_if0 {ms} (hu : P.underlying t = some (.interface ms)) : Sem.run P (Op.equalIn (d + 1) t .nilIface .nilIface) w = .ok true w := by simp [Op.equalIn, run_underlying P hu]
theorem eqI_if {ms} (k : TypeId) (v : Value) (hu : P.underlying t = some (.interface ms)) : Sem.run P (Op.equalIn (d + 1) t (.iface k v) .nilIface) w = .ok false w := by simp [Op.equalIn, run_underlying P hu]
theorem eqI_if' {ms} (k : TypeId) (v : Value) (hu : P.underlying t = some (.interface ms)) : Sem.run P (Op.equalIn (d + 1) t .nilIface (.iface k v)) w = .ok false w := by simp [Op.equalIn, run_underlying P hu]
theorem eqG_if0 {ms} (hu : P.underlying t = some (.interface ms)) (hms : ms.isEmpty = true) : Sem.run P (Op.eqGuardIn (d + 1) t .nilIface .nilIface) w = .ok false w := by simp [Op.eqGuardIn, run_underlying P hu, hms]
end
theorem aEq_sound {P : Program} {G : Gh} {t : TypeId} {x y : AV} {vx vy : Value} {b : Bool} (h : aEq P t x y = some b) (hx : RelA G x vx) (hy : RelA G y vy) (ox oy : Operand) (op : BinOp) (w : World) :
    Sem.run P (eqGuard op t ox oy vx vy) w = .ok () w ∧ Sem.run P (Op.equal t vx vy) w = .ok b w ∧
      (binOp .eql t vx vy = do pure (.bool (← Op.equal t vx vy))) ∧ (binOp .neq t vx vy = do pure (.bool (!(← Op.equal t vx vy)))) := by
  unfold aEq at h
  split at h
  · rename_i l m
    split at h
    · cases h
    · rename_i hg
      have h1 := feq_sound h (relA_c hx) (relA_c hy) w
      cases relA_c hx with
      | agg cs vs hl hr =>
        cases relA_c hy with
        | agg ds us kl kr =>
          refine ⟨run_eqGuard_agg w op t ox oy _ _ (by simpa using hg), h1, rfl, rfl⟩
  · have h1 := feq_sound h (relA_c hx) (relA_c hy) w
    cases relA_c hx; cases relA_c hy
    exact ⟨by cases op <;> simp [eqGuard], h1, rfl, rfl⟩
  · split at h
    · rename_i hu
      cases h
      cases relA_c hx; cases relA_c hy
      exact ⟨by cases op <;> simp [eqGuard], eqI_ptr w 9999 none hu, rfl, rfl⟩
    · cases h
  · split at h
    · rename_i e hu
      split at h
      · rename_i hc
        obtain ⟨rfl, rfl, hc⟩ := hc
        obtain ⟨j, hj⟩ := Option.isSome_iff_exists.1 hc
        cases h
        cases hx with
        | ref h1 =>
          cases hy with
          | ref h2 =>
            rw [h1] at h2
            cases h2
            exact ⟨by cases op <;> simp [eqGuard], eqI_same w 9999 _ hu hj, rfl, rfl⟩
      · cases h
    · cases h
  · split at h
    · rename_i hu
      cases h
      cases hx; cases relA_c hy
      exact ⟨by cases op <;> simp [eqGuard], eqI_ptr' w 9999 _ hu, rfl, rfl⟩
    · cases h
  · split at h
    · rename_i hu
      cases h
      cases hy; cases relA_c hx
      exact ⟨by cases op <;> simp [eqGuard], eqI_ptr w 9999 _ hu, rfl, rfl⟩
    · cases h
  · split at h
    · rename_i hu
      cases h
      cases relA_c hx; cases relA_c hy
      exact ⟨by cases op <;> simp [eqGuard], eqI_sl w 9999 _ _ _ _ _ hu, rfl, rfl⟩
    · cases h
  · split at h
    · rename_i hu
      cases h
      cases relA_c hx; cases relA_c hy
      exact ⟨by cases op <;> simp [eqGuard], eqI_map w 9999 _ hu, rfl, rfl⟩
    · cases h
  · split at h
    · rename_i hu
      cases h
      cases hx; cases relA_c hy
      exact ⟨by cases op <;> simp [eqGuard], eqI_map' w 9999 _ hu, rfl, rfl⟩
    · cases h
  · split at h
    · rename_i hu
      cases h
      cases hy; cases relA_c hx
      exact ⟨by cases op <;> simp [eqGuard], eqI_map w 9999 _ hu, rfl, rfl⟩
    · cases h
  · split at h
    · rename_i ms hu
      split at h
      · rename_i hms
        cases h
        cases relA_c hx; cases relA_c hy
        have he : Sem.run P (Op.eqGuardIn Op.maxDepth t .nilIface .nilIface) w = .ok false w := eqG_if0 w 9999 hu hms
        refine ⟨?_, eqI_if0 w 9999 hu, rfl, rfl⟩
        unfold eqGuard
        cases op <;> simp <;> (cases ox <;> cases oy <;> simp [he])
      · cases h
    · cases h
  · split at h
    · rename_i ms hu
      cases h
      cases relA_c hy
      obtain ⟨k, v, rfl⟩ : ∃ k v, vx = .iface k v := by cases relA_c hx with | iface _ _ v _ => exact ⟨_, v, rfl⟩
      exact ⟨by cases op <;> simp [eqGuard], eqI_if w 9999 k v hu, rfl, rfl⟩
    · cases h
  · split at h
    · rename_i ms hu
      cases h
      cases relA_c hy
      obtain ⟨k, v, rfl⟩ : ∃ k v, vx = .iface k v := by cases hx with | iface _ => exact ⟨_, _, rfl⟩
      exact ⟨by cases op <;> simp [eqGuard], eqI_if w 9999 k v hu, rfl, rfl⟩
    · cases h
  · split at h
    · rename_i ms hu
      cases h
      cases relA_c hx
      obtain ⟨k, v, rfl⟩ : ∃ k v, vy = .iface k v := by cases relA_c hy with | iface _ _ v _ => exact ⟨_, v, rfl⟩
      exact ⟨by cases op <;> simp [eqGuard], eqI_if' w 9999 k v hu, rfl, rfl⟩
    · cases h
  · split at h
    · rename_i ms hu
      cases h
      cases relA_c hx
      obtain ⟨k, v, rfl⟩ : ∃ k v, vy = .iface k v := by cases hy with | iface _ => exact ⟨_, _, rfl⟩
      exact ⟨by cases op <;> simp [eqGuard], eqI_if' w 9999 k v hu, rfl, rfl⟩
    · cases h
  · split at h
    · rename_i hrow
      split at h
      · rename_i hu
        cases h
        cases relA_c hy
        have : ∃ a n c, vx = .slice (some a) n c := by
          cases hx with
          | c hf => cases hf <;> first | exact ⟨_, _, _, rfl⟩ | simp [AV.isRow] at hrow
          | sl => exact ⟨_, _, _, rfl⟩
          | fz => exact ⟨_, _, _, rfl⟩
          | _ => simp [AV.isRow] at hrow
        obtain ⟨a, n, c, rfl⟩ := this
        exact ⟨by cases op <;> simp [eqGuard], eqI_sl' w 9999 _ _ _ _ _ hu, rfl, rfl⟩
      · cases h
    · cases h
  · cases h
theorem bin_sound {P : Program} {G : Gh} {op : BinOp} {t : TypeId} {x y v : AV} {vx vy : Value} (h : aBin P op t x y = some v) (hx : RelA G x vx) (hy : RelA G y vy) (ox oy : Operand) (w : World) :
    ∃ z, Sem.run P (do eqGuard op t ox oy vx vy; binOp op t vx vy) w = .ok z w ∧ RelA G v z := by
  have eqCase : ∀ {v : AV}, (match op with | .eql => (aEq P t x y).map fun b => AV.c (.bool b) | .neq => (aEq P t x y).map fun b => AV.c (.bool !b) | _ => none) = some v →
      ∃ z, Sem.run P (do eqGuard op t ox oy vx vy; binOp op t vx vy) w = .ok z w ∧ RelA G v z := by
    intro v h
    split at h
    · simp only [Option.map_eq_some_iff] at h
      obtain ⟨b, hb, rfl⟩ := h
      obtain ⟨h1, h2, h3, h4⟩ := aEq_sound hb hx hy ox oy .eql w
      exact ⟨.bool b, by simp [Sem.run_bind, h1, h3, h2], .c (.bool b)⟩
    · simp only [Option.map_eq_some_iff] at h
      obtain ⟨b, hb, rfl⟩ := h
      obtain ⟨h1, h2, h3, h4⟩ := aEq_sound hb hx hy ox oy .neq w
      exact ⟨.bool !b, by simp [Sem.run_bind, h1, h4, h2], .c (.bool _)⟩
    · cases h
  unfold aBin at h
  split at h
  · simp only [Option.map_eq_some_iff] at h
    obtain ⟨r, hr, rfl⟩ := h
    cases relA_c hx; cases relA_c hy
    obtain ⟨z, k1, k2⟩ := aInt_sound (P := P) hr t G.F w
    exact ⟨z, by simp [Sem.run_bind, eqGuard_int, k1], .c k2⟩
  · simp only [Option.map_eq_some_iff] at h
    obtain ⟨r, hr, rfl⟩ := h
    cases relA_c hx; cases relA_c hy
    obtain ⟨z, k1, k2⟩ := aStr_sound (P := P) hr t G.F w
    exact ⟨z, by simp [Sem.run_bind, eqGuard_str, k1], .c k2⟩
  · cases op <;> first | exact eqCase h | (simp at h; done)
theorem un_sound {P : Program} {G : Gh} {op : UnOp} {x v : AV} {vx : Value} (h : aUn op x = some v) (hx : RelA G x vx) (w : World) :
    ∃ z, Sem.run P (Op.unary op vx) w = .ok z w ∧ RelA G v z := by
  unfold aUn at h
  split at h
  · cases h; cases relA_c hx; exact ⟨_, by simp [Op.unary], .c (.bool _)⟩
  · cases h; cases relA_c hx; exact ⟨_, by simp [Op.unary, Op.intArith], .c (.int _ _)⟩
  · cases h
end Go.Abs

namespace Go.Abs
theorem frozen_cells {G : Gh} {w : World} {l : List FV} {g o : Nat} {vals : Nat → Value} (hc : ∀ g o v, G.F g o = some v → w.cell? ⟨g, o, none⟩ = some v)
    (hF : ∀ (i : Nat) (a : FV), l[i]? = some a → G.F g (o + i) = some (vals i)) (hR : ∀ (i : Nat) (a : FV), l[i]? = some a → RelF G.F a (vals i))
    (ho : ∀ (i : Nat) (a : FV), l[i]? = some a → oneCell (vals i) = true) (n : Nat) (hn : n ≤ l.length) :
    ∃ vs : List Value, vs.length = n ∧ RelL G ((l.map AV.c).take n) vs ∧ vs.all oneCell = true ∧ ∀ j v, vs[j]? = some v → w.cell? ⟨g, o + j, none⟩ = some v := by
  refine ⟨(List.range n).map vals, by simp, ⟨by simp; omega, ?_⟩, ?_, ?_⟩
  · intro i a b ha hb
    rw [List.getElem?_take] at ha
    split at ha
    · rename_i hi
      simp only [List.getElem?_map, Option.map_eq_some_iff] at ha
      obtain ⟨a', ha', rfl⟩ := ha
      simp [hi] at hb
      subst hb
      exact .c (hR i a' ha')
    · cases ha
  · rw [List.all_eq_true]
    intro x hx
    simp only [List.mem_map, List.mem_range] at hx
    obtain ⟨i, hi, rfl⟩ := hx
    exact ho i l[i] (List.getElem?_eq_getElem (by omega))
  · intro j v hj
    have hjn : j < n := by
      rcases Nat.lt_or_ge j n with h | h
      · exact h
      · rw [List.getElem?_eq_none (by simpa using h)] at hj; cases hj
    simp [hjn] at hj
    subst hj
    exact hc _ _ _ (hF j l[j] (List.getElem?_eq_getElem (by omega)))
structure Reads (P : Program) (G : Gh) (w : World) (s : Nat) (cs : List AV) (k : Nat) (x : Value) : Prop where
  len : cs.length = k * s
  lenOf : Sem.run P (Builtin.lenOf x) w = .ok k w
  cells : ∀ n, n ≤ k → ∃ vs : List Value, Sem.run P (Builtin.firstCells s n x) w = .ok vs.toArray w ∧ RelL G (cs.take (n * s)) vs ∧ vs.all oneCell = true
theorem reads_row {P : Program} {G : Gh} {S : St} {w : World} (h : Inv G S w) {s : Nat} {y : AV} {x : Value} {cs : List AV} {k : Nat} (he : rowCells s S y = some (cs, k)) (hx : RelA G y x) :
    Reads P G w s cs k x := by
  unfold rowCells at he
  split at he
  · cases he
    cases relA_c hx
    exact ⟨by simp, rfl, fun n hn => ⟨[], rfl, ⟨by simp, fun i a b ha => by simp at ha⟩, rfl⟩⟩
  · rename_i xs
    split at he
    · rename_i hs
      simp only [Option.some.injEq, Prod.mk.injEq] at he
      obtain ⟨rfl, rfl⟩ := he
      have hsz := allSize_iff.1 hs
      have hfl : (flat xs).length = xs.length * s := by rw [flat_eq, List.length_map, flatF_length hsz]
      cases relA_c hx with
      | sl0 a cap => exact ⟨hfl, rfl, fun n hn => ⟨[], by
          have : n = 0 := by simpa using hn
          subst this
          simp [Builtin.firstCells, loadCells, loadCellsFrom], ⟨by simp [flat], fun i a b ha => by simp [flat] at ha⟩, rfl⟩⟩
      | slN => exact ⟨hfl, rfl, fun n hn => ⟨[], by
          have : n = 0 := by simpa using hn
          subst this
          rfl, ⟨by simp [flat], fun i a b ha => by simp [flat] at ha⟩, rfl⟩⟩
      | sl _ g o s' cap vals hs' hcap hF hR ho =>
        refine ⟨hfl, rfl, fun n hn => ?_⟩
        have hle : n * s ≤ (flatF xs).length := by rw [flatF_length hsz]; exact Nat.mul_le_mul_right _ hn
        obtain ⟨vs, k1, k2, k3, k4⟩ := frozen_cells (G := G) (w := w) h.cells hF hR ho (n * s) hle
        refine ⟨vs, ?_, by rw [flat_eq]; exact k2, k3⟩
        have := run_loadCells P vs k4
        rw [k1] at this
        simpa [Builtin.firstCells] using this
    · cases he
  · rename_i tag xs
    split at he
    · rename_i hs
      simp only [Option.some.injEq, Prod.mk.injEq] at he
      obtain ⟨rfl, rfl⟩ := he
      have hsz := allSize_iff.1 hs
      have hfl : (flat xs).length = xs.length * s := by rw [flat_eq, List.length_map, flatF_length hsz]
      cases hx with
      | fz hτ hcap hs0 hs' hF hR ho =>
        refine ⟨hfl, rfl, fun n hn => ?_⟩
        have hle : n * s ≤ (flatF xs).length := by rw [flatF_length hsz]; exact Nat.mul_le_mul_right _ hn
        obtain ⟨vs, k1, k2, k3, k4⟩ := frozen_cells (G := G) (w := w) h.cells hF hR ho (n * s) hle
        refine ⟨vs, ?_, by rw [flat_eq]; exact k2, k3⟩
        have := run_loadCells P vs k4
        rw [k1] at this
        simpa [Builtin.firstCells] using this
    · cases he
  · rename_i b off len s' full
    split at he
    · rename_i bc ro T hb
      split at he
      · rename_i hc
        obtain ⟨rfl, hc2⟩ := hc
        simp only [Option.some.injEq, Prod.mk.injEq] at he
        obtain ⟨rfl, rfl⟩ := he
        cases hx with
        | @sl _ _ _ _ _ B a cap hB ha hl hr hf hk =>
          obtain ⟨B', hB', hkn, hroom, C, lo, hi, hC, hsz, hcell, hfz, hFz⟩ := h.obs b _ hb rfl
          rw [hB] at hB'
          cases hB'
          refine ⟨by simp; omega, rfl, fun n hn => ?_⟩
          have hns : n * s' ≤ len * s' := Nat.mul_le_mul_right _ hn
          have htake : (((bc.drop off).take (len * s')).take (n * s')) = (bc.drop off).take (n * s') := by rw [List.take_take]; congr 1; omega
          rw [htake]
          have hex : ∀ m, off + m ≤ bc.length → ∃ vs : List Value, vs.length = m ∧ RelL G ((bc.drop off).take m) vs ∧ vs.all oneCell = true ∧
              ∀ j v, vs[j]? = some v → w.cell? ⟨B.g, B.o + off + j, none⟩ = some v := by
            intro m hm
            refine ⟨(List.range m).map fun i => C.getD (B.o + off + i) undef, by simp, ⟨by simp; omega, ?_⟩, ?_, ?_⟩
            · intro i a' b' ha' hb'
              rw [List.getElem?_take] at ha'
              split at ha'
              · rename_i hi'
                rw [List.getElem?_drop] at ha'
                obtain ⟨v, v1, v2, v3⟩ := hcell (off + i) a' ha'
                simp [hi'] at hb'
                have e1 : B.o + off + i = B.o + (off + i) := by omega
                rw [e1, v1] at hb'
                simp at hb'
                subst hb'
                exact v2
              · cases ha'
            · rw [List.all_eq_true]
              intro x hx
              simp only [List.mem_map, List.mem_range] at hx
              obtain ⟨i, hi', rfl⟩ := hx
              obtain ⟨v, v1, v2, v3⟩ := hcell (off + i) bc[off + i] (List.getElem?_eq_getElem (by omega))
              have e1 : B.o + off + i = B.o + (off + i) := by omega
              rw [e1, Array.getD_eq_getD_getElem?, v1]
              exact v3
            · intro j v hj
              have hjn : j < m := by
                rcases Nat.lt_or_ge j m with h | h
                · exact h
                · rw [List.getElem?_eq_none (by simpa using h)] at hj; cases hj
              obtain ⟨u, v1, v2, v3⟩ := hcell (off + j) bc[off + j] (List.getElem?_eq_getElem (by omega))
              have e1 : B.o + off + j = B.o + (off + j) := by omega
              simp only [List.getElem?_map, List.getElem?_range hjn, Option.map_some, Option.some.injEq] at hj
              rw [cell_at hC, e1, v1]
              rw [← hj, e1, Array.getD_eq_getD_getElem?, v1]
              rfl
          obtain ⟨vs, k1, k2, k3, k4⟩ := hex (n * s') (by omega)
          refine ⟨vs, ?_, k2, k3⟩
          by_cases hcap : cap = 0
          · have hn0 : n = 0 := by omega
            subst hn0
            have : vs = [] := List.eq_nil_of_length_eq_zero (by simpa using k1)
            subst this
            simp [Builtin.firstCells, loadCells, loadCellsFrom]
          · have := run_loadCells P vs k4
            rw [k1] at this
            rw [ha hcap]
            simpa [Builtin.firstCells] using this
      · cases he
    · cases he
  · cases he
theorem byteCells_length (l : List UInt8) : (byteCells l).length = l.length := by simp [byteCells]
theorem reads_str {P : Program} {G : Gh} {w : World} {l : List UInt8} {x : Value} (hx : RelA G (.c (.str l)) x) : Reads P G w 1 (byteCells l) l.length x := by
  cases relA_c hx with
  | str s =>
    have hsz : s.size = s.data.toList.length := by rw [Array.length_toList]; rfl
    refine ⟨by simp [byteCells], by rw [← hsz]; rfl, fun n hn => ?_⟩
    refine ⟨((s.data.toList.take n).map fun b => .int .u8 b.toNat), ?_, ⟨by simp [byteCells], ?_⟩, ?_⟩
    · have : ((s.extract 0 n).data.map fun b => Value.int .u8 b.toNat) = (((s.data.toList.take n).map fun b => Value.int .u8 b.toNat)).toArray := by
        apply Array.ext'
        simp [ByteArray.data_extract, List.extract_eq_take_drop]
      simp only [Builtin.firstCells, this]
      rfl
    · intro i a b ha hb
      rw [Nat.mul_one] at ha
      simp only [byteCells, ← List.map_take, List.getElem?_map, Option.map_eq_some_iff] at ha hb
      obtain ⟨c, hc, rfl⟩ := ha
      obtain ⟨d, hd, rfl⟩ := hb
      rw [hc] at hd
      cases hd
      exact .c (.int _ _)
    · rw [List.all_eq_true]
      intro x hx
      obtain ⟨b, _, rfl⟩ := List.mem_map.1 hx
      rfl
end Go.Abs

namespace Go.Abs
theorem append_room_run {P : Program} {t t' e ty : TypeId} {i : TypeInfo} {u : TypeDesc} {base : Option Addr} {sLen sCap k : Nat} {vy : Value} {new : List Value} {w w1 : World}
    (hu : P.underlying t = some (.slice e)) (hi : P.info? e = some i) (hu' : P.underlying t' = some u) (hz : u = .string ∨ ∃ e', u = .slice e')
    (hl : Sem.run P (Builtin.lenOf vy) w = .ok k w) (hc : Sem.run P (Builtin.firstCells i.size k vy) w = .ok new.toArray w) (hroom : sLen + k ≤ sCap)
    (hst : ∀ a, base = some a → Sem.run P (storeCells (a.add (sLen * i.size)) new) w = .ok () w1) (hb : base = none → w1 = w) :
    Sem.run P (Builtin.append_ #[t, t'] ty #[.slice base sLen sCap, vy]) w = .ok (.slice base (sLen + k) sCap) w1 := by
  have hs : Sem.run P (sizeOf e) w = .ok i.size w := run_sizeOf P (by simp [szT, hi]) w
  rcases hz with rfl | ⟨e', rfl⟩
  all_goals
    cases base with
    | none =>
      rw [hb rfl]
      simp [Builtin.append_, run_underlying P hu, run_underlying P hu', hs, hl, hroom, hc]
    | some a =>
      have := hst a rfl
      simp [Builtin.append_, run_underlying P hu, run_underlying P hu', hs, hl, hroom, hc, this]
theorem append_grow_run {P : Program} {t t' e ty : TypeId} {i : TypeInfo} {u : TypeDesc} {base : Option Addr} {sLen sCap k : Nat} {vy z : Value} {old new : List Value} {w : World}
    (hu : P.underlying t = some (.slice e)) (hi : P.info? e = some i) (hu' : P.underlying t' = some u) (hz : u = .string ∨ ∃ e', u = .slice e')
    (hl : Sem.run P (Builtin.lenOf vy) w = .ok k w) (h2 : Sem.run P (Builtin.firstCells i.size k vy) w.drew = .ok new.toArray w.drew) (hgrow : sCap < sLen + k)
    (h1 : Sem.run P (Builtin.firstCells i.size sLen (.slice base sLen sCap)) w.drew = .ok old.toArray w.drew)
    (hzero : i.zero = some z) (hb0 : i.bytes ≠ 0) (hmax : (sLen + k) * i.bytes ≤ maxLenA) :
    ∃ newCap rest, sLen + k ≤ newCap ∧ rest.length = (newCap - (sLen + k)) * z.cells.size ∧
      Sem.run P (Builtin.append_ #[t, t'] ty #[.slice base sLen sCap, vy]) w =
        .ok (.slice (some ⟨w.heap.size, 0, none⟩) (sLen + k) newCap) (wh (drew w) (w.heap.push (.cells (old ++ new ++ rest).toArray e (0, 0)))) := by
  have hs : ∀ w1, Sem.run P (sizeOf e) w1 = .ok i.size w1 := fun w1 => run_sizeOf P (by simp [szT, hi]) w1
  have hti : ∀ w1, Sem.run P (typeInfo e) w1 = .ok i w1 := run_typeInfo P hi
  have hn : ¬ (sLen + k ≤ sCap) := by omega
  have hnc : ¬ (281474976710656 < Builtin.nextslicecap (sLen + k) sCap * i.bytes) := by
    have h1 := nextslicecap_le hgrow
    have h2 : Builtin.nextslicecap (sLen + k) sCap * i.bytes ≤ 2 * (sLen + k) * i.bytes := Nat.mul_le_mul_right _ h1
    have h3 : 2 * (sLen + k) * i.bytes = 2 * ((sLen + k) * i.bytes) := by rw [Nat.mul_assoc]
    unfold maxLenA at hmax
    omega
  have hq : (Question.appendCap (sLen + k) sCap e).forced = false := rfl
  have hge : sLen + k ≤ (Question.appendCap (sLen + k) sCap e).cut (w.tape w.drawn (.appendCap (sLen + k) sCap e)) := Nat.le_add_right _ _
  generalize hnew : (Question.appendCap (sLen + k) sCap e).cut (w.tape w.drawn (.appendCap (sLen + k) sCap e)) = newCap at hge
  have hzv : ∀ w1, Sem.run P (zeroValue e) w1 = .ok z w1 := fun w1 => by simp [zeroValue, hti, hzero]
  have hroom : ∀ n w1, Sem.run P (askRoom n) w1 = .ok () w1 := fun n w1 => by
    unfold askRoom; split <;> simp [mark, Sem.run]
  have h63 : ¬ (9223372036854775807 < ((sLen : Int) + (k : Int))) := by
    have : sLen + k ≤ (sLen + k) * i.bytes := Nat.le_mul_of_pos_right _ (by omega)
    unfold maxLenA at hmax
    omega
  refine ⟨newCap, (Builtin.zeroCells z.cells (newCap - (sLen + k))).toList, hge, by simp [Builtin.zeroCells], ?_⟩
  have hrow : ∀ (cells : Array Value) (w1 : World), Sem.run P (newRow e cells) w1 = .ok ⟨w1.heap.size, 0, none⟩ (wh w1 (w1.heap.push (.cells cells e (0, 0)))) := fun cells w1 => by
    simp [newRow, newObj, Sem.run, wh]
  have harr : (old.toArray ++ (new.toArray ++ Builtin.zeroCells z.cells (newCap - (sLen + k)))) = (old ++ (new ++ (Builtin.zeroCells z.cells (newCap - (sLen + k))).toList)).toArray := by
    apply Array.ext'; simp
  rcases hz with rfl | ⟨e', rfl⟩
  all_goals
    simp [Builtin.append_, run_underlying P hu, run_underlying P hu', hs, hti, hl, hn, hb0, hnc, hq, hnew, hroom, h1, h2, hzv, hrow]
    rw [harr]; rfl
theorem reads_heap {G : Gh} {S : St} {w : World} (h : Inv G S w) (w1 : World) (e : w1.heap = w.heap) : Inv G S w1 := by
  have hc : ∀ a, w1.cell? a = w.cell? a := fun a => by simp [World.cell?, e]
  refine ⟨⟨h.wf, fun g o v hv => by rw [hc]; exact h.cells g o v hv, fun b ob hb hl => ?_, h.apart, ?_, h.tags, h.nodup, h.fresh, fun b B hb => by rw [e]; exact h.born b B hb⟩, fun p hp => ⟨by rw [e]; exact (h.known p hp).1, (h.known p hp).2⟩⟩
  · obtain ⟨B, h1, h2⟩ := h.obs b ob hb hl
    exact ⟨B, h1, h2.keep (.refl G) (fun _ _ hj => hj) (by rw [e])⟩
  · intro t ht
    obtain ⟨g, st, en, s, k1, ⟨C, T, lo, hi, k2, k3, k4⟩, k5, k6⟩ := h.spare t ht
    exact ⟨g, st, en, s, k1, ⟨C, T, lo, hi, by rw [e]; exact k2, k3, k4⟩, k5, k6⟩
theorem inv_del {G : Gh} {S : St} {w : World} (h : Inv G S w) {b : Nat} {ob0 : Ob} {B : Base} (hb : S.get b = some ob0) (hl0 : ob0.live = true) (hB : G.ρ b = some B) :
    Inv G (S.del b) w ∧ Ext G S w G (S.del b) w ∧ ¬ Own G (S.del b) B.g := by
  have hg := (h.born b B hB).1
  have e : wh w (w.heap.setIfInBounds B.g w.heap[B.g]) = w := by
    have : w.heap.setIfInBounds B.g w.heap[B.g] = w.heap := by
      apply Array.ext
      · simp
      · intro j h1 h2
        by_cases hj : B.g = j
        · subst hj; simp
        · rw [Array.getElem_setIfInBounds (by simpa using h1)]; simp [hj]
    rw [this]; rfl
  have := inv_kill h hb hl0 hB w.heap[B.g] (fun j v hj => by rw [e]; exact h.cells _ _ _ hj)
  rwa [e] at this
theorem appU {P : Program} {t' : TypeId} {str : Bool} (h : (match P.underlying t' with | some (.int _) => none | some .string => some true | some (.slice _) => some false | _ => none) = some str) :
    ∃ u, P.underlying t' = some u ∧ (u = .string ∨ ∃ e', u = .slice e') := by
  split at h
  · cases h
  · rename_i hu; exact ⟨_, hu, .inl rfl⟩
  · rename_i e' hu; exact ⟨_, hu, .inr ⟨e', rfl⟩⟩
  · cases h
theorem readsArg {P : Program} {G : Gh} {S : St} {w : World} (h : Inv G S w) {s k : Nat} {str : Bool} {y : AV} {vy : Value} {new : List AV}
    (he : (bif str then (match y with | .c (.str l) => some (byteCells l, l.length) | _ => none) else rowCells s S y) = some (new, k)) (hk : k * s = new.length) (hy : RelA G y vy)
    (w1 : World) (e : w1.heap = w.heap) : Reads P G w1 s new k vy := by
  cases str with
  | false =>
    simp only [cond_false] at he
    exact reads_row (reads_heap h w1 e) he hy
  | true =>
    simp only [cond_true] at he
    split at he
    · rename_i l
      simp only [Option.some.injEq, Prod.mk.injEq] at he
      obtain ⟨rfl, rfl⟩ := he
      have hr := reads_str (P := P) (w := w1) hy
      by_cases hl : l.length = 0
      · refine ⟨by rw [byteCells_length, hl]; simp, hr.lenOf, fun n hn => ?_⟩
        have hn0 : n = 0 := by omega
        subst hn0
        obtain ⟨vs, k1, k2, k3⟩ := hr.cells 0 (by omega)
        refine ⟨vs, ?_, by simpa using k2, k3⟩
        rw [← k1]
        cases relA_c hy with
        | str bs => rfl
      · rw [byteCells_length] at hk
        have : s = 1 := by
          rcases Nat.lt_or_ge s 2 with h1 | h1
          · rcases Nat.lt_or_ge s 1 with h2 | h2
            · have : s = 0 := by omega
              subst this; omega
            · omega
          · have : l.length * 2 ≤ l.length * s := Nat.mul_le_mul_left _ h1
            omega
        subst this
        exact hr
    · cases he
end Go.Abs

namespace Go.Abs
theorem rel_one {G : Gh} {aq : List AV} {vs : List Value} (h : RelL G aq vs) (h1 : vs.all oneCell = true) (i : Nat) (a : AV) (ha : aq[i]? = some a) :
    ∃ v, vs[i]? = some v ∧ RelA G a v ∧ oneCell v = true := by
  obtain ⟨v, k1, k2⟩ := relL_cell h ha
  exact ⟨v, k1, k2, List.all_eq_true.1 h1 v (List.mem_of_getElem? k1)⟩
theorem Ext.drew_pre {G G' : Gh} {S S' : St} {w w' : World} (h : Ext G S (Go.Abs.drew w) G' S' w') : Ext G S w G' S' w' := (Ext.drew G S w).trans h
theorem grow_new {G : Gh} {S : St} {w : World} (h : Inv G S w) {aq : List AV} {vs rest : List Value} {n s newCap zs ro : Nat} {e : TypeId} (hr : RelL G aq vs) (h1 : vs.all oneCell = true)
    (hl : aq.length = n * s) (hn : n ≤ newCap) (hz : zs = s) (hrest : rest.length = (newCap - n) * zs) :
    ∃ G', Inv G' (S.new (.blk aq ro e)) (wh (Go.Abs.drew w) (w.heap.push (.cells (vs ++ rest).toArray e (0, 0)))) ∧
      Ext G S w G' (S.new (.blk aq ro e)) (wh (Go.Abs.drew w) (w.heap.push (.cells (vs ++ rest).toArray e (0, 0)))) ∧
      RelA G' (.sl S.next 0 n s false) (.slice (some ⟨w.heap.size, 0, none⟩) n newCap) := by
  subst hz
  have hvl : vs.length = n * zs := by rw [← hr.len, hl]
  obtain ⟨G', k1, k2, k3⟩ := inv_new_blk h.drew aq ro (vs ++ rest) e 0 0 (by simp [hr.len]) (fun i a ha => by
    obtain ⟨v, v1, v2, v3⟩ := rel_one hr h1 i a ha
    have hi : i < vs.length := (List.getElem?_eq_some_iff.1 v1).1
    exact ⟨v, by rw [List.getElem?_append, if_pos hi]; exact v1, v2, v3⟩) (by intro j _; omega)
  refine ⟨G', k1, k2.drew_pre, ?_⟩
  have hroom : (vs ++ rest).length = newCap * zs := by
    rw [List.length_append, hvl, hrest, ← Nat.add_mul]; congr 1; omega
  have := RelA.sl (G := G') (b := S.next) (off := 0) (len := n) (s := zs) (full := false) (a := ⟨w.heap.size, 0, none⟩) (cap := newCap) k3 (fun _ => by simp [drew]) hn
    (by simp only [hroom]; omega) (by simp) (fun _ => by simp only [hl]; have := Nat.mul_le_mul_right zs hn; omega)
  exact this
theorem run_storeNil (P : Program) (a : Addr) (w : World) : Sem.run P (storeCells a []) w = .ok () w := rfl
theorem append_sound {P : Program} {G : Gh} {S : St} {w : World} (h : Inv G S w) {t t' ty : TypeId} {x y v : AV} {vx vy : Value} {cm : List Cmd} (he : aAppend P t t' x y S = some (v, cm))
    (hx : RelA G x vx) (hy : RelA G y vy) :
    ∃ z G' w', Sem.run P (Builtin.append_ #[t, t'] ty #[vx, vy]) w = .ok z w' ∧ RelA G' v z ∧ Inv G' (S.run cm) w' ∧ Ext G S w G' (S.run cm) w' := by
  unfold aAppend at he
  split at he
  case h_2 => cases he
  rename_i e hu
  split at he
  case h_2 => cases he
  rename_i i str hi hstr
  obtain ⟨u, hu', hz⟩ := appU hstr
  split at he
  case h_2 => cases he
  rename_i new k hnew
  split at he
  · cases he
  rename_i hcond
  have hb0 : i.bytes ≠ 0 := fun e => hcond (.inl e)
  have hs0 : i.size ≠ 0 := fun e => hcond (.inr (.inl e))
  have hzero : i.zero.map (·.cells.size) = some i.size := Classical.byContradiction fun e => hcond (.inr (.inr (.inl e)))
  have hk : k * i.size = new.length := Classical.byContradiction fun e => hcond (.inr (.inr (.inr e)))
  obtain ⟨z, hz1, hz2⟩ := Option.map_eq_some_iff.1 hzero
  have hR := readsArg (P := P) h hnew hk hy
  obtain ⟨nv, hn1, hn2, hn3⟩ := (hR w rfl).cells k (Nat.le_refl _)
  have htk : new.take (k * i.size) = new := List.take_of_length_le (by omega)
  rw [htk] at hn2
  have hnl : nv.length = k * i.size := by rw [← hn2.len, hk]
  obtain ⟨dv, hd1, hd2, hd3⟩ := (hR w.drew rfl).cells k (Nat.le_refl _)
  rw [htk] at hd2
  have hdrop : ∀ (n : Nat) (l : List AV), l.length = n → l.take n = l := fun n l hl => List.take_of_length_le (by omega)
  split at he
  ·
    cases relA_c hx
    split at he
    · rename_i hk0
      simp only [Option.some.injEq, Prod.mk.injEq] at he
      obtain ⟨rfl, rfl⟩ := he
      subst hk0
      exact ⟨_, G, w, append_room_run hu hi hu' hz (hR w rfl).lenOf hn1 (by simp) (fun a ha => by cases ha) (fun _ => rfl), .c .nils, h, .refl G S w⟩
    · rename_i hk0
      split at he
      · rename_i hmax
        simp only [Option.some.injEq, Prod.mk.injEq] at he
        obtain ⟨rfl, rfl⟩ := he
        obtain ⟨newCap, rest, c1, c2, c3⟩ := append_grow_run (ty := ty) (base := none) (sLen := 0) (sCap := 0) (old := []) hu hi hu' hz (hR w rfl).lenOf hd1 (by omega) (by simp [Builtin.firstCells]) hz1 hb0 (by simpa using hmax)
        obtain ⟨G', k1, k2, k3⟩ := grow_new h (ro := 0) (e := e) (n := k) (rest := rest) (newCap := newCap) hd2 hd3 hk.symm (by simpa using c1) hz2 (by simpa using c2)
        exact ⟨_, G', _, by simpa using c3, by simpa using k3, k1, k2⟩
      · cases he
  ·
    rename_i tag xs
    have hxfull := hx
    cases hx with
    | @fz _ _ g o cap s vals hτ hcap hsp hs' hF hRl ho =>
    split at he
    · rename_i hk0
      simp only [Option.some.injEq, Prod.mk.injEq] at he
      obtain ⟨rfl, rfl⟩ := he
      subst hk0
      have hnv : nv = [] := List.eq_nil_of_length_eq_zero (by simpa using hnl)
      subst hnv
      exact ⟨_, G, w, append_room_run hu hi hu' hz (hR w rfl).lenOf hn1 (by simpa using hcap) (fun a ha => run_storeNil P _ w) (fun hh => by cases hh), .fz hτ hcap hsp hs' hF hRl ho, h, .refl G S w⟩
    · cases he
  ·
    rename_i b off len s full
    have hxfull := hx
    cases hx with
    | @sl _ _ _ _ _ B a cap hB ha hl hr hf hkn =>
    split at he
    · rename_i hk0
      simp only [Option.some.injEq, Prod.mk.injEq] at he
      obtain ⟨rfl, rfl⟩ := he
      subst hk0
      have hnv : nv = [] := List.eq_nil_of_length_eq_zero (by simpa using hnl)
      subst hnv
      exact ⟨_, G, w, append_room_run hu hi hu' hz (hR w rfl).lenOf hn1 (by simpa using hl) (fun a ha => run_storeNil P _ w) (fun hh => by cases hh), .sl hB ha hl hr hf hkn, h, .refl G S w⟩
    · rename_i hk0
      split at he
      case h_2 => cases he
      rename_i cs ro T hb
      split at he
      case isFalse => cases he
      rename_i hc
      obtain ⟨hss, hmax, hlen, hTe⟩ := hc
      subst hss
      have hTe' := hTe.symm
      subst hTe'
      obtain ⟨B', hB', hknl, hroomB, C, lo, hi', hC, hsz, hcell, hfz, hFz⟩ := h.obs b _ hb rfl
      rw [hB] at hB'
      cases hB'
      have hg : B.g < w.heap.size := (Array.getElem?_eq_some_iff.1 hC).1
      have hcsl : ((cs.drop off).take (len * i.size)).length = len * i.size := by simp; omega
      have hgrow : ∀ {S1 : St} {ro' : Nat}, Inv G S1 w → Ext G S w G S1 w → cap < len + k → ∃ z G' w', Sem.run P (Builtin.append_ #[t, t'] ty #[.slice (some a) len cap, vy]) w = .ok z w' ∧
          RelA G' (.sl S1.next 0 (len + k) i.size false) z ∧ Inv G' (S1.new (.blk ((cs.drop off).take (len * i.size) ++ new) ro' e)) w' ∧
          Ext G S w G' (S1.new (.blk ((cs.drop off).take (len * i.size) ++ new) ro' e)) w' := by
        intro S1 ro' hS1 hE1 hcap
        have hRx := reads_row (P := P) (reads_heap h w.drew rfl) (s := i.size) (y := .sl b off len i.size full) (cs := (cs.drop off).take (len * i.size)) (k := len) (by simp [rowCells, hb, hlen]) hxfull
        obtain ⟨ov, o1, o2, o3⟩ := hRx.cells len (Nat.le_refl _)
        rw [hdrop _ _ hcsl] at o2
        obtain ⟨newCap, rest, c1, c2, c3⟩ := append_grow_run (ty := ty) (base := some a) (sLen := len) (sCap := cap) hu hi hu' hz (hR w rfl).lenOf hd1 hcap o1 hz1 hb0 hmax
        obtain ⟨G', m1, m2, m3⟩ := grow_new hS1 (ro := ro') (e := e) (n := len + k) (rest := rest) (newCap := newCap) (relL_append o2 hd2) (by rw [List.all_append, o3, hd3]; rfl) (by rw [List.length_append, hcsl, ← hk, Nat.add_mul]) c1 hz2 c2
        exact ⟨_, G', _, c3, m3, m1, hE1.trans m2⟩
      split at he
      ·
        rename_i hfull
        simp only [Option.some.injEq, Prod.mk.injEq] at he
        obtain ⟨rfl, rfl⟩ := he
        exact hgrow h (.refl G S w) (by have := hf hfull; omega)
      · rename_i hfull
        have hfull' : full = false := by simpa using hfull
        have hkn' := hkn hfull'
        split at he
        case isFalse => cases he
        rename_i hro
        split at he
        ·
          rename_i hin
          simp only [Option.some.injEq, Prod.mk.injEq] at he
          obtain ⟨rfl, rfl⟩ := he
          have hcap : len + k ≤ cap := by
            have h1 : (len + k) * i.size ≤ cap * i.size := by omega
            exact Nat.le_of_mul_le_mul_right h1 (by omega)
          have hcap0 : cap ≠ 0 := by omega
          have hmul : (len + k) * i.size = len * i.size + k * i.size := Nat.add_mul ..
          obtain ⟨w', k1, k2, k3⟩ := inv_write (P := P) h hb hB hn2 hn3 hro (by omega)
          refine ⟨_, G, w', append_room_run hu hi hu' hz (hR w rfl).lenOf hn1 hcap (w1 := w') (fun a' ha' => by
            cases ha'
            rw [ha hcap0, Addr_add, Nat.add_assoc]; exact k1) (fun hh => by cases hh), .sl hB ha hcap hr (by simp) (fun _ => hkn'), k2, k3⟩
        ·
          rename_i hin
          split at he
          case isFalse => cases he
          rename_i hoff0
          simp only [Option.some.injEq, Prod.mk.injEq] at he
          obtain ⟨rfl, rfl⟩ := he
          have hmul : (len + k) * i.size = len * i.size + k * i.size := Nat.add_mul ..
          by_cases hroom : len + k ≤ cap
          · have hcap0 : cap ≠ 0 := by omega
            have hcm : (len + k) * i.size ≤ cap * i.size := Nat.mul_le_mul_right _ hroom
            have hst := run_storeCells P nv (B.o + off + len * i.size) 0 C w hC (by omega) (fun j j1 j2 => hfz j (by omega) (by omega)) hn3
            rw [Nat.add_zero] at hst
            have hget : ∀ j, (overL C (B.o + off + len * i.size) nv)[j]? = if B.o + off + len * i.size ≤ j ∧ j < B.o + off + len * i.size + nv.length then nv[j - (B.o + off + len * i.size)]? else C[j]? :=
              fun j => overL_get nv _ C j (by omega)
            have hcell' : ∀ j v, G.F B.g j = some v → (overL C (B.o + off + len * i.size) nv)[j]? = some v := fun j v hj => by
              have := h.cells _ _ _ hj
              rw [cell_at hC] at this
              rw [hget, if_neg (by have := hFz j v hj; omega)]
              exact this
            obtain ⟨k1, k2, k3⟩ := inv_kill h hb rfl hB (.cells (overL C (B.o + off + len * i.size) nv) e (lo, hi')) (fun j v hj => by
              rw [cell_at (wh_set_eq hg)]; exact hcell' j v hj)
            have hle := Gh.le_bind (G := G) ⟨B.g, B.o + off, ((cs.drop off).take (len * i.size) ++ new).length, B.room - off⟩ (k1.fresh (S.del b).next (Nat.le_refl _)).1
            obtain ⟨a1, a2, a3⟩ := inv_adopt (hkn := fun p hp e' => (h.known p hp).2 (by rw [e']; exact .inl ⟨b, _, B, hb, rfl, hB, rfl⟩)) k1 (.blk ((cs.drop off).take (len * i.size) ++ new) (ro - off) e) ⟨B.g, B.o + off, ((cs.drop off).take (len * i.size) ++ new).length, B.room - off⟩ (by simpa [wh] using hg) (by show B.o + off = 0; have := (h.born b B hB).2; omega) k3 (by
              refine ⟨rfl, by simp only [List.length_append, hcsl]; omega, _, lo, hi', wh_set_eq hg, by rw [overL_size]; simp only; omega, ?_, ?_, ?_⟩
              · intro j x hx
                rw [List.getElem?_append] at hx
                split at hx
                · rename_i hj
                  rw [hcsl] at hj
                  rw [List.getElem?_take, if_pos hj, List.getElem?_drop] at hx
                  obtain ⟨v, v1, v2, v3⟩ := hcell (off + j) x hx
                  refine ⟨v, ?_, v2.mono hle, v3⟩
                  show (overL C (B.o + off + len * i.size) nv)[B.o + off + j]? = some v
                  rw [hget, if_neg (by omega), Nat.add_assoc]; exact v1
                · rename_i hj
                  rw [hcsl] at hj hx
                  obtain ⟨v, v1, v2, v3⟩ := rel_one hn2 hn3 _ x hx
                  have hv : j - len * i.size < nv.length := (List.getElem?_eq_some_iff.1 v1).1
                  refine ⟨v, ?_, v2.mono hle, v3⟩
                  show (overL C (B.o + off + len * i.size) nv)[B.o + off + j]? = some v
                  rw [hget, if_pos (by omega)]
                  have : B.o + off + j - (B.o + off + len * i.size) = j - len * i.size := by omega
                  rw [this]; exact v1
              · intro j j1 j2
                simp only at j1 j2
                exact hfz j (by omega) (by omega)
              · intro j v hj
                have := hFz j v hj
                simp only; omega)
            refine ⟨_, _, _, append_room_run hu hi hu' hz (hR w rfl).lenOf hn1 hroom (w1 := wh w (w.heap.setIfInBounds B.g (.cells (overL C (B.o + off + len * i.size) nv) e (lo, hi')))) (fun a' ha' => by
              cases ha'
              rw [ha hcap0, Addr_add]; exact hst) (fun hh => by cases hh), ?_, a1, Ext.adopt (G1 := G.bind (S.del b).next ⟨B.g, B.o + off, ((cs.drop off).take (len * i.size) ++ new).length, B.room - off⟩) k2 a2 (Nat.le_succ _) (.inl ⟨b, _, B, hb, rfl, hB, rfl⟩) a3⟩
            exact RelA.sl (a := a) (cap := cap) (Gh.bind_self G (S.del b).next _) (fun h0 => by rw [ha h0]; simp) hroom (by simp only; omega) (by simp) (fun _ => by simp only [List.length_append, hcsl]; omega)
          · obtain ⟨d1, d2, d3⟩ := inv_del h hb rfl hB
            exact hgrow d1 d2 (by omega)
  · cases he
end Go.Abs

namespace Go.Abs
def RelO (G : Gh) : Option AV → Option Value → Prop
  | none, none => True
  | some a, some v => RelA G a v
  | _, _ => False
theorem optA_rel {N : Nat} {G : Gh} {env : Env} {a : Act} (hE : EnvRel N G env a.tmps) {x : Option Operand} {v : Option AV} (h : optA env x = some v) : RelO G v (x.map a.eval) := by
  cases x with
  | none => simp [optA] at h; subst h; trivial
  | some x =>
    simp only [optA] at h
    split at h
    · rename_i y hy; cases h; exact opnd_rel hE hy
    · cases h
theorem sliceBound_run {P : Program} {k : IntKind} {i : Int} {y : Nat} {code : BoundsCode} (h0 : 0 ≤ i) (h1 : i.toNat ≤ y) (w : World) :
    Sem.run P (Instr.sliceBound (.int k i) y code) w = .ok i.toNat w := by
  have : i ≤ (y : Int) := by omega
  simp [Instr.sliceBound, asIntOf, h0, this]
theorem boundA_run {P : Program} {G : Gh} {d y l : Nat} {x : Option AV} {vx : Option Value} (h : boundA d x = some l) (hr : RelO G x vx) (hy : l ≤ y) (code : BoundsCode) (w : World) :
    (x = none ∧ vx = none ∧ l = d) ∨ ∃ v, vx = some v ∧ ∀ z : Nat, l ≤ z → Sem.run P (Instr.sliceBound v z code) w = .ok l w := by
  unfold boundA at h
  split at h
  · cases h
    cases vx with
    | none => exact .inl ⟨rfl, rfl, rfl⟩
    | some v => exact hr.elim
  · rename_i k i
    split at h
    · rename_i h0
      cases h
      cases vx with
      | none => exact hr.elim
      | some v =>
        cases relA_c hr
        exact .inr ⟨_, rfl, fun z hz => sliceBound_run h0 hz w⟩
    · cases h
  · cases h
theorem bounds_run {P : Program} {G : Gh} {isSlice : Bool} {len cap l h : Nat} {lo hi : Option AV} {vlo vhi : Option Value} (h1 : boundA 0 lo = some l) (h2 : boundA len hi = some h)
    (r1 : RelO G lo vlo) (r2 : RelO G hi vhi) (hlh : l ≤ h) (hc : h ≤ cap) (hlc : len ≤ cap) (w : World) :
    Sem.run P (Instr.sliceBounds isSlice len cap vlo vhi none) w = .ok (l, h, cap) w := by
  have e2 := boundA_run (P := P) h2 r2 (Nat.le_refl h) (if isSlice then BoundsCode.sliceAcap else .sliceAlen) w
  have e1 := boundA_run (P := P) h1 r1 (Nat.le_refl l) BoundsCode.sliceB w
  rcases e2 with ⟨rfl, rfl, rfl⟩ | ⟨v2, rfl, k2⟩ <;> rcases e1 with ⟨rfl, rfl, rfl⟩ | ⟨v1, rfl, k1⟩
  · simp [Instr.sliceBounds]
  · simp [Instr.sliceBounds, k1 _ hlh]
  · simp [Instr.sliceBounds, k2 _ hc]
  · simp [Instr.sliceBounds, k2 _ hc, k1 _ hlh]
theorem bounds3_run {P : Program} {G : Gh} {len cap l h m : Nat} {k : IntKind} {lo hi : Option AV} {vlo vhi : Option Value} (h1 : boundA 0 lo = some l) (h2 : boundA len hi = some h)
    (hsome : hi ≠ none) (r1 : RelO G lo vlo) (r2 : RelO G hi vhi) (hlh : l ≤ h) (hm : h ≤ m) (hc : m ≤ cap) (w : World) :
    Sem.run P (Instr.sliceBounds true len cap vlo vhi (some (.int k m))) w = .ok (l, h, m) w := by
  have e2 := boundA_run (P := P) h2 r2 (Nat.le_refl h) BoundsCode.slice3B w
  have e1 := boundA_run (P := P) h1 r1 (Nat.le_refl l) BoundsCode.slice3C w
  have e3 := sliceBound_run (P := P) (k := k) (i := (m : Int)) (y := cap) (code := .slice3Acap) (by omega) (by simpa using hc) w
  rcases e2 with ⟨rfl, rfl, rfl⟩ | ⟨v2, rfl, k2⟩
  · exact absurd rfl hsome
  · rcases e1 with ⟨rfl, rfl, rfl⟩ | ⟨v1, rfl, k1⟩
    · simp [Instr.sliceBounds, e3, k2 _ hm]
    · simp [Instr.sliceBounds, e3, k2 _ hm, k1 _ hlh]
theorem flatF_take {xs : List FV} : ∀ {n i : Nat} {a : FV}, (flatF (xs.take n))[i]? = some a → (flatF xs)[i]? = some a := by
  induction xs with
  | nil => intro n i a h; simpa using h
  | cons x r ih =>
    intro n i a h
    cases n with
    | zero => simp [flatF] at h
    | succ n =>
      simp only [List.take_succ_cons, flatF] at h ⊢
      rw [List.getElem?_append] at h ⊢
      split at h
      · rename_i hl; rw [if_pos hl]; exact h
      · rename_i hl; rw [if_neg hl]; exact ih h
theorem flatF_drop {s : Nat} {xs : List FV} : ∀ {n i : Nat}, (∀ x ∈ xs, x.cells.length = s) → n ≤ xs.length → (flatF (xs.drop n))[i]? = (flatF xs)[n * s + i]? := by
  induction xs with
  | nil =>
    intro n i h hn
    have : n = 0 := by simpa using hn
    subst this
    simp
  | cons x r ih =>
    intro n i h hn
    cases n with
    | zero => simp
    | succ n =>
      have hx := h x (by simp)
      simp only [List.drop_succ_cons, flatF]
      rw [List.getElem?_append, if_neg (by rw [hx, Nat.add_mul]; omega), hx, ih (fun y hy => h y (by simp [hy])) (by simpa using hn)]
      congr 1
      rw [Nat.add_mul]; omega
theorem sub_frozen {F : Nat → Nat → Option Value} {xs : List FV} {g o s : Nat} {vals : Nat → Value} (hs : ∀ x ∈ xs, x.cells.length = s)
    (hF : ∀ (i : Nat) (a : FV), (flatF xs)[i]? = some a → F g (o + i) = some (vals i)) (hR : ∀ (i : Nat) (a : FV), (flatF xs)[i]? = some a → RelF F a (vals i))
    (ho : ∀ (i : Nat) (a : FV), (flatF xs)[i]? = some a → oneCell (vals i) = true) {l h cap : Nat} (hlh : l ≤ h) (hh : h ≤ xs.length) (hc : xs.length ≤ cap) :
    RelF F (.sl ((xs.take h).drop l)) (.slice (if cap = l then some ⟨g, o, none⟩ else some ⟨g, o + l * s, none⟩) (h - l) (cap - l)) := by
  by_cases e : l = h
  · subst e
    have : (xs.take l).drop l = [] := by simp
    rw [this]
    split
    · simpa using RelF.sl0 (F := F) ⟨g, o, none⟩ (cap - l)
    · simpa using RelF.sl0 (F := F) ⟨g, o + l * s, none⟩ (cap - l)
  · rw [if_neg (by omega)]
    have hlen : ((xs.take h).drop l).length = h - l := by simp; omega
    have htk : ∀ x ∈ xs.take h, x.cells.length = s := fun x hx => hs x (List.mem_of_mem_take hx)
    have hget : ∀ (i : Nat) (a : FV), (flatF ((xs.take h).drop l))[i]? = some a → (flatF xs)[l * s + i]? = some a := fun i a ha => by
      rw [flatF_drop htk (by simp; omega)] at ha
      exact flatF_take ha
    have := RelF.sl (F := F) ((xs.take h).drop l) g (o + l * s) s (cap - l) (fun i => vals (l * s + i)) (fun x hx => htk x (List.mem_of_mem_drop hx)) (by rw [hlen]; omega)
      (fun i a ha => by rw [Nat.add_assoc]; exact hF _ a (hget i a ha)) (fun i a ha => hR _ a (hget i a ha)) (fun i a ha => ho _ a (hget i a ha))
    rw [hlen] at this
    exact this
theorem slice_slice_run {P : Program} {t e : TypeId} {s l h m : Nat} {a : Option Addr} {len cap : Nat} {vlo vhi vmx : Option Value} (hu : P.underlying t = some (.slice e)) (hs : szT P e = some s) (w : World)
    (hb : Sem.run P (Instr.sliceBounds true len cap vlo vhi vmx) w = .ok (l, h, m) w) :
    Sem.run P (Instr.sliceAt t (.slice a len cap) vlo vhi vmx) w = .ok (.slice (if m = l then a else a.map (·.add (l * s))) (h - l) (m - l)) w := by
  simp [Instr.sliceAt, Instr.slice, run_underlying P hu, run_sizeOf P hs, hb]
theorem slice_sound {P : Program} {G : Gh} {S : St} {w : World} (h : Inv G S w) {t : TypeId} {x v : AV} {lo hi mx : Option AV} {vx : Value} {vlo vhi vmx : Option Value}
    (he : aSlice P t x lo hi mx S = some v) (hx : RelA G x vx) (r1 : RelO G lo vlo) (r2 : RelO G hi vhi) (r3 : RelO G mx vmx) :
    ∃ y, Sem.run P (Instr.sliceAt t vx vlo vhi vmx) w = .ok y w ∧ RelA G v y := by
  have hmx : mx = none → vmx = none := fun e => by subst e; cases vmx with | none => rfl | some _ => exact r3.elim
  unfold aSlice at he
  split at he
  · rename_i hu
    split at he
    · rename_i s
      split at he
      · rename_i l hh h1 h2
        split at he
        · rename_i hc
          cases he
          rw [hmx rfl]
          cases relA_c hx with
          | str bs =>
            have hsz : bs.size = bs.data.toList.length := by rw [Array.length_toList]; rfl
            have hb := bounds_run (P := P) (isSlice := false) (cap := bs.size) (len := bs.size) h1 (by rw [hsz]; exact h2) r1 r2 hc.1 (by rw [hsz]; exact hc.2) (Nat.le_refl _) w
            refine ⟨.string (bs.extract l hh), by simp [Instr.sliceAt, Instr.slice, run_underlying P hu, hb], ?_⟩
            have e1 : (bs.extract l hh).data.toList = (bs.data.toList.take hh).drop l := by
              simp [ByteArray.data_extract, List.extract_eq_take_drop, List.drop_take]
            rw [← e1]
            exact .c (.str _)
        · cases he
      · cases he
    · cases he
  · rename_i e hu
    split at he
    case h_2 => cases he
    rename_i s hs
    split at he
    ·
      split at he
      · rename_i h1 h2
        cases he
        rw [hmx rfl]
        cases relA_c hx
        have hb := bounds_run (P := P) (isSlice := true) (cap := 0) (len := 0) h1 h2 r1 r2 (Nat.le_refl _) (Nat.le_refl _) (Nat.le_refl _) w
        exact ⟨_, slice_slice_run hu hs w hb, by simpa using RelA.c (G := G) .nils⟩
      · cases he
    ·
      rename_i xs
      split at he
      · rename_i l hh h1 h2
        split at he
        · rename_i hc
          cases he
          rw [hmx rfl]
          have hsz := allSize_iff.1 hc.2.2
          cases relA_c hx with
          | sl0 a cap =>
            have hh0 : hh = 0 := by simpa using hc.2.1
            subst hh0
            have hl0 : l = 0 := by omega
            subst hl0
            have hb := bounds_run (P := P) (isSlice := true) (cap := cap) (len := 0) h1 h2 r1 r2 (Nat.le_refl _) (Nat.zero_le _) (Nat.zero_le _) w
            refine ⟨_, slice_slice_run hu hs w hb, ?_⟩
            simp only [List.take_nil, List.drop_nil, Option.map_some, Nat.sub_self]
            split
            · exact .c (.sl0 _ _)
            · exact .c (.sl0 _ _)
          | slN =>
            have hh0 : hh = 0 := by simpa using hc.2.1
            subst hh0
            have hl0 : l = 0 := by omega
            subst hl0
            have hb := bounds_run (P := P) (isSlice := true) (cap := 0) (len := 0) h1 h2 r1 r2 (Nat.le_refl _) (Nat.zero_le _) (Nat.zero_le _) w
            exact ⟨_, slice_slice_run hu hs w hb, .c .slN⟩
          | sl _ g o s' cap vals hs' hcap hF hR ho =>
            have hb := bounds_run (P := P) (isSlice := true) (cap := cap) (len := xs.length) h1 h2 r1 r2 hc.1 (by omega) hcap w
            refine ⟨_, slice_slice_run hu hs w hb, ?_⟩
            have := sub_frozen (F := G.F) hsz hF hR ho hc.1 hc.2.1 hcap
            simp only [Option.map_some, Addr_add]
            exact .c this
        · cases he
      · cases he
    ·
      rename_i tag xs
      split at he
      · rename_i l hh h1 h2
        split at he
        · rename_i hc
          cases he
          rw [hmx rfl]
          have hsz := allSize_iff.1 hc.2.2
          cases hx with
          | @fz _ _ g o cap s' vals hτ hcap hs0 hs' hF hR ho =>
            have hb := bounds_run (P := P) (isSlice := true) (cap := cap) (len := xs.length) h1 h2 r1 r2 hc.1 (by omega) hcap w
            refine ⟨_, slice_slice_run hu hs w hb, ?_⟩
            have := sub_frozen (F := G.F) hsz hF hR ho hc.1 hc.2.1 hcap
            simp only [Option.map_some, Addr_add]
            exact .c this
        · cases he
      · cases he
    ·
      rename_i b off len s' full
      split at he
      case h_2 => cases he
      rename_i cs ro T hb
      split at he
      case h_2 => cases he
      rename_i l hh h1 h2
      split at he
      case isFalse => cases he
      rename_i hc
      obtain ⟨rfl, hs0, hlh, hf1, hf2⟩ := hc
      cases hx with
      | @sl _ _ _ _ _ B a cap hB ha hl hr hf hkn =>
        obtain ⟨B', hB', hknl, hroomB, _⟩ := h.obs b _ hb rfl
        rw [hB] at hB'
        cases hB'
        have hhcap : hh ≤ cap := by
          cases hfull : full with
          | true => have := hf hfull; have := hf1 hfull; omega
          | false =>
            have k1 := hkn hfull
            have k2 := hf2 hfull
            have k3 : hh * s' ≤ cap * s' := by omega
            exact Nat.le_of_mul_le_mul_right k3 (by omega)
        have hsub : ∀ m, l ≤ m → m ≤ cap → l * s' + (m - l) * s' = m * s' := fun m h1 h2 => by rw [← Nat.add_mul]; congr 1; omega
        have haddr : ∀ m, m ≤ cap → l ≤ m → m - l ≠ 0 → (if m = l then a else a.add (l * s')) = ⟨B.g, B.o + (off + l * s'), none⟩ := fun m h1 h2 h3 => by
          rw [if_neg (by omega), ha (by omega), Addr_add, Nat.add_assoc]
        split at he
        ·
          rw [hmx rfl]
          have hbr := bounds_run (P := P) (isSlice := true) (cap := cap) (len := len) h1 h2 r1 r2 hlh hhcap hl w
          have hrun := slice_slice_run (a := some a) hu hs w hbr
          have e1 : (if cap = l then some a else (some a).map (·.add (l * s'))) = some (if cap = l then a else a.add (l * s')) := by split <;> rfl
          rw [e1] at hrun
          have hs1 := hsub cap (by omega) (Nat.le_refl _)
          split at he
          · rename_i hcut
            split at he
            · rename_i hend
              cases he
              have hcl := hf hcut.1
              refine ⟨_, hrun, .sl hB (haddr cap (Nat.le_refl _) (by omega)) (by omega) (by omega) (by simp) (fun _ => ?_)⟩
              rw [hknl, Nat.add_assoc, hs1, hcl]; exact hend
            · cases he
          · rename_i hcut
            cases he
            refine ⟨_, hrun, .sl hB (haddr cap (Nat.le_refl _) (by omega)) (by omega) (by omega) (fun hfull => ?_) (fun hfull => ?_)⟩
            · have := hf hfull
              have : hh = len := Classical.byContradiction fun hne => hcut ⟨hfull, hne⟩
              omega
            · have := hkn hfull
              omega
        ·
          rename_i k m
          split at he
          · rename_i hm
            cases he
            obtain ⟨hm, hsm⟩ := hm
            subst hm
            cases vmx with
            | none => exact r3.elim
            | some vm =>
              cases relA_c r3
              have hsome : hi ≠ none := fun e => by
                subst e
                simp at hsm
              have hbr := bounds3_run (P := P) (cap := cap) (len := len) (k := k) h1 h2 hsome r1 r2 hlh (Nat.le_refl _) hhcap w
              have hrun := slice_slice_run (a := some a) hu hs w hbr
              have e1 : (if hh = l then some a else (some a).map (·.add (l * s'))) = some (if hh = l then a else a.add (l * s')) := by split <;> rfl
              rw [e1] at hrun
              have hs1 := hsub hh hlh hhcap
              have hms : hh * s' ≤ cap * s' := Nat.mul_le_mul_right _ hhcap
              exact ⟨_, hrun, .sl hB (haddr hh hhcap hlh) (Nat.le_refl _) (by omega) (fun _ => rfl) (by simp)⟩
          · cases he
        · cases he
    · cases he
  · cases he
end Go.Abs

namespace Go.Abs
theorem copy_sound {P : Program} {G : Gh} {S : St} {w : World} (h : Inv G S w) {t t' ty : TypeId} {x y v : AV} {vx vy : Value} {cm : List Cmd} (he : aCopy P t t' x y S = some (v, cm))
    (hx : RelA G x vx) (hy : RelA G y vy) :
    ∃ z w', Sem.run P (Builtin.copy_ #[t, t'] ty #[vx, vy]) w = .ok z w' ∧ RelA G v z ∧ Inv G (S.run cm) w' ∧ Ext G S w G (S.run cm) w' := by
  unfold aCopy at he
  split at he
  case h_2 => cases he
  rename_i e hu
  split at he
  case h_2 => cases he
  rename_i s u hs hu'
  split at he
  case h_2 => cases he
  rename_i new k hnew
  have hlen : Sem.run P (Builtin.lenOf vy) w = .ok k w ∧ (k * s = new.length → ∀ n, n ≤ k → ∃ vs : List Value, Sem.run P (Builtin.firstCells s n vy) w = .ok vs.toArray w ∧ RelL G (new.take (n * s)) vs ∧ vs.all oneCell = true) := by
    split at hnew
    · split at hnew
      · rename_i l
        simp only [Option.some.injEq, Prod.mk.injEq] at hnew
        obtain ⟨rfl, rfl⟩ := hnew
        have hr := reads_str (P := P) (w := w) hy
        refine ⟨hr.lenOf, fun hk n hn => ?_⟩
        have := readsArg (P := P) (S := S) (s := s) (str := true) (y := .c (.str l)) h (by simp) hk hy w rfl
        exact this.cells n hn
      · cases hnew
    · have hr := reads_row (P := P) h hnew hy
      exact ⟨hr.lenOf, fun _ n hn => hr.cells n hn⟩
  split at he
  · rename_i b off len s' full
    split at he
    case h_2 => cases he
    rename_i cs ro T hb
    simp only at he
    split at he
    case isFalse => cases he
    rename_i hc
    obtain ⟨rfl, hl, hro, hk⟩ := hc
    simp only [Option.some.injEq, Prod.mk.injEq] at he
    obtain ⟨rfl, rfl⟩ := he
    obtain ⟨h1, h2⟩ := hlen
    obtain ⟨vs, v1, v2, v3⟩ := h2 hk (min k len) (Nat.min_le_left _ _)
    cases hx with
    | @sl _ _ _ _ _ B a cap hB ha hlc hr hf hkn =>
      have hm : min k len * s' ≤ len * s' := Nat.mul_le_mul_right _ (Nat.min_le_right _ _)
      have htl : (new.take (min k len * s')).length ≤ len * s' := by simp; omega
      obtain ⟨w', k1, k2, k3⟩ := inv_write (P := P) h hb hB v2 v3 hro (by omega)
      refine ⟨.int .i64 (min k len : Nat), w', ?_, .c (.int _ _), k2, k3⟩
      have hst : Sem.run P (storeCells a vs) w = .ok () w' := by
        by_cases hcap : cap = 0
        · have : len = 0 := by omega
          have hv : vs = [] := List.eq_nil_of_length_eq_zero (by rw [← v2.len, this, Nat.min_zero]; simp)
          subst hv
          rw [run_storeNil] at k1 ⊢
          exact k1
        · rw [ha hcap]; exact k1
      have hmin : k.min len = min k len := rfl
      simp [Builtin.copy_, run_underlying P hu, h1, run_sizeOf P hs, hmin, v1, hst, goInt]
  · cases he
theorem bytesOf_spec : ∀ {cs : List AV} {l : List UInt8}, bytesOf cs = some l → ∃ ns : List Int, cs = ns.map (fun n => AV.c (.int .u8 n)) ∧ l = ns.map fun n => UInt8.ofNat n.toNat
  | [], l, h => by simp [bytesOf] at h; subst h; exact ⟨[], rfl, rfl⟩
  | x :: r, l, h => by
    unfold bytesOf at h
    split at h
    · rename_i hx; cases hx
    · rename_i n r' hx
      cases hx
      split at h
      · rename_i m hm
        cases h
        obtain ⟨ns, h1, h2⟩ := bytesOf_spec hm
        exact ⟨n :: ns, by simp [h1], by simp [h2]⟩
      · cases h
    · cases h
theorem relL_ints {G : Gh} : ∀ {ns : List Int} {vs : List Value}, RelL G (ns.map (fun n => AV.c (.int .u8 n))) vs → vs = ns.map (Value.int .u8)
  | [], vs, h => List.eq_nil_of_length_eq_zero (by simpa using h.len.symm)
  | n :: r, [], h => by have := h.len; simp at this
  | n :: r, v :: vs, h => by
    have h0 := h.rel 0 _ _ rfl rfl
    cases relA_c h0
    have := relL_ints (G := G) (ns := r) (vs := vs) ⟨by simpa using h.len, fun i a b ha hb => h.rel (i + 1) a b (by simpa using ha) (by simpa using hb)⟩
    simp [this]
theorem row_value {G : Gh} {S : St} {s k : Nat} {y : AV} {x : Value} {cs : List AV} (he : rowCells s S y = some (cs, k)) (hx : RelA G y x) :
    (x = .slice none 0 0 ∧ k = 0) ∨ ∃ a c, x = .slice (some a) k c := by
  unfold rowCells at he
  split at he
  · cases he
    cases relA_c hx
    exact .inl ⟨rfl, rfl⟩
  · split at he
    · simp only [Option.some.injEq, Prod.mk.injEq] at he
      obtain ⟨_, rfl⟩ := he
      cases relA_c hx with
      | sl0 a cap => exact .inr ⟨_, _, rfl⟩
      | slN => exact .inl ⟨rfl, rfl⟩
      | sl => exact .inr ⟨_, _, rfl⟩
    · cases he
  · split at he
    · simp only [Option.some.injEq, Prod.mk.injEq] at he
      obtain ⟨_, rfl⟩ := he
      cases hx
      exact .inr ⟨_, _, rfl⟩
    · cases he
  · split at he
    · split at he
      · simp only [Option.some.injEq, Prod.mk.injEq] at he
        obtain ⟨_, rfl⟩ := he
        cases hx
        exact .inr ⟨_, _, rfl⟩
      · cases he
    · cases he
  · cases he
theorem row_more {P : Program} {fits : TypeId → Bool} {T : TypeId} {c n : Nat} (hc : 1 ≤ c) : ∀ {d : Nat}, rowAt P fits d T 1 0 n = true → n ≤ 1 → rowAt P fits d T c 0 n = true := by
  intro d h hn
  cases d with
  | zero => cases h
  | succ d =>
    simp only [rowAt] at h ⊢
    split at h
    · cases h
    · rename_i hs
      rw [if_neg hs]
      simp only [Nat.zero_mod, Nat.zero_div, Bool.or_eq_true, Bool.and_eq_true, decide_eq_true_eq] at h ⊢
      rcases h with h | h
      · exact .inl ⟨⟨h.1.1, by omega⟩, h.2⟩
      · exact .inr ⟨by omega, h.2⟩
theorem lies_more {P : Program} {T u : TypeId} {c : Nat} (h : rowAt P (sameLayout P P.depth · u) P.depth T 1 0 1 = true) (hc : 1 ≤ c) : liesAt P P.depth T c 0 u 1 = true := by
  have h1 := row_more hc h (Nat.le_refl _)
  cases hd : P.depth with
  | zero => rw [hd] at h; cases h
  | succ d =>
    simp only [liesAt, Bool.or_eq_true]
    rw [hd] at h1 ⊢
    exact .inl h1
theorem conv_sound {P : Program} {G : Gh} {S : St} {w : World} (h : Inv G S w) {src dst : TypeId} {x v : AV} {vx : Value} {cm : List Cmd} (he : aConv P src dst x S = some (v, cm)) (hx : RelA G x vx) :
    ∃ z G' w', Sem.run P (convert src dst vx) w = .ok z w' ∧ RelA G' v z ∧ Inv G' (S.run cm) w' ∧ Ext G S w G' (S.run cm) w' := by
  unfold aConv at he
  split at he
  · rename_i u k hsrc hdst
    split at he
    · cases he
      cases relA_c hx
      exact ⟨_, G, w, by simp [convert, run_underlying P hsrc, run_underlying P hdst, Conv.intToInt], .c (.int _ _), h, .refl G S w⟩
    · cases he
  · rename_i u hsrc hdst
    split at he
    · cases he
      cases relA_c hx
      exact ⟨_, G, w, by simp [convert, run_underlying P hsrc, run_underlying P hdst, Conv.intToString], .c (.str _), h, .refl G S w⟩
    · cases he
      cases relA_c hx
      exact ⟨_, G, w, by simp [convert, run_underlying P hsrc, run_underlying P hdst], .c (.str _), h, .refl G S w⟩
    · split at he
      · rename_i e
        split at he
        · rename_i he8
          split at he
          · rename_i cs k hrow
            simp only [Option.map_eq_some_iff] at he
            obtain ⟨l, hl, hv⟩ := he
            cases hv
            have hr := reads_row (P := P) h hrow hx
            obtain ⟨ns, n1, n2⟩ := bytesOf_spec hl
            obtain ⟨vs, v1, v2, v3⟩ := hr.cells k (Nat.le_refl _)
            have htk : cs.take (k * 1) = cs := List.take_of_length_le (by have := hr.len; omega)
            rw [htk, n1] at v2
            have hvs := relL_ints v2
            subst hvs
            have hslice := row_value hrow hx
            have hres : RelA G (.c (.str l)) (.string (strOfNums ns)) := by
              rw [n2, ← strOfNums_data]; exact .c (.str _)
            rcases hslice with ⟨rfl, rfl⟩ | ⟨a, c, rfl⟩
            · have hn : ns = [] := by
                have := hr.len
                rw [n1] at this
                exact List.eq_nil_of_length_eq_zero (by simpa using this)
              subst hn
              exact ⟨_, G, w, run_convert_bytes_nil w src e hsrc he8 0 0 dst hdst, by rw [n2]; exact .c (.str ByteArray.empty), h, .refl G S w⟩
            · have hload : Sem.run P (loadCells a k) w = .ok (ns.map (Value.int .u8)).toArray w := by simpa [Builtin.firstCells] using v1
              refine ⟨.string (strOfNums ns), G, w, ?_, hres, h, .refl G S w⟩
              rw [run_convert_bytes_string w src dst e _ k c hsrc he8 hdst, run_bytesToString w a k c ns hload, foldl_push_bytes]
              simp [strOfNums, ByteArray.empty, ByteArray.emptyWithCapacity]
              rfl
          · cases he
        · cases he
      · cases he
  · rename_i u e hsrc hdst
    split at he
    · rename_i s he8 hsz
      split at he
      · rename_i hlen
        simp only [Option.some.injEq, Prod.mk.injEq] at he
        obtain ⟨rfl, rfl⟩ := he
        cases relA_c hx with
        | str bs =>
          have hb0 : bs.size = bs.data.toList.length := by rw [Array.length_toList]; rfl
          have hgc : bs.size ≤ grownCap w bs.size 0 e := Nat.le_add_right _ _
          have hrun := Lib.run_convert_string_bytes (P := P) w src dst e bs hsrc hdst he8
          have hbc : (Lib.bytesCells w e bs).toList = (bs.data.toList.map fun b => Value.int .u8 b.toNat) ++ List.replicate (grownCap w bs.size 0 e - bs.size) (.int .u8 0) := by
            simp [Lib.bytesCells]
          have hsz1 : (Lib.bytesCells w e bs).size = grownCap w bs.size 0 e := by
            rw [← Array.length_toList, hbc]; simp; omega
          have hw : Lib.bytesWorld w e bs = wh (drew w) (w.heap.push (.cells (Lib.bytesCells w e bs).toList.toArray e ((Lib.bytesCells w e bs).size, (Lib.bytesCells w e bs).size + 1))) := by
            have hh : (Lib.bytesWorld w e bs).heap = w.heap.push (.cells (Lib.bytesCells w e bs).toList.toArray e ((Lib.bytesCells w e bs).size, (Lib.bytesCells w e bs).size + 1)) := by
              apply Array.ext
              · rw [Lib.bytesWorld_size]; simp
              · intro j j1 j2
                rw [Lib.bytesWorld_size] at j1
                by_cases hj : j < w.heap.size
                · have e1 := Lib.bytesWorld_at_old w e bs j hj
                  have e2 : (Lib.bytesWorld w e bs).heap[j]? = some (Lib.bytesWorld w e bs).heap[j] := by simp
                  rw [e2] at e1
                  rw [Array.getElem_push_lt hj]
                  have e3 : w.heap[j]? = some w.heap[j] := by simp [hj]
                  rw [e3] at e1
                  exact Option.some.inj e1
                · have hje : j = w.heap.size := by omega
                  subst hje
                  have e1 := Lib.bytesWorld_at_new w e bs
                  have e2 : (Lib.bytesWorld w e bs).heap[w.heap.size]? = some (Lib.bytesWorld w e bs).heap[w.heap.size] := by simp [Lib.bytesWorld_size]
                  rw [e2] at e1
                  rw [Option.some.inj e1]
                  simp
            have : Lib.bytesWorld w e bs = wh (Lib.bytesWorld w e bs) (Lib.bytesWorld w e bs).heap := rfl
            rw [this, hh]
            rfl
          obtain ⟨G', k1, k2, k3⟩ := inv_new_blk h.drew (byteCells bs.data.toList) 0 (Lib.bytesCells w e bs).toList e (Lib.bytesCells w e bs).size ((Lib.bytesCells w e bs).size + 1)
            (by have h1 := byteCells_length bs.data.toList; have h2 : (Lib.bytesCells w e bs).toList.length = grownCap w bs.size 0 e := by rw [Array.length_toList]; exact hsz1
                omega) (fun i a ha => by
              simp only [byteCells, List.getElem?_map, Option.map_eq_some_iff] at ha
              obtain ⟨b, hb, rfl⟩ := ha
              have hi : i < bs.data.toList.length := (List.getElem?_eq_some_iff.1 hb).1
              refine ⟨.int .u8 b.toNat, ?_, .c (.int _ _), rfl⟩
              rw [hbc, List.getElem?_append, if_pos (by simpa using hi), List.getElem?_map, hb]; rfl) (by intro j hj; rw [Array.length_toList] at hj; omega)
          refine ⟨_, G', _, by rw [hrun, hw]; rfl, ?_, k1, k2.drew_pre⟩
          rw [hb0] at *
          have hl1 : (byteCells bs.data.toList).length = bs.data.toList.length := byteCells_length _
          have := RelA.sl (G := G') (b := S.next) (off := 0) (len := bs.data.toList.length) (s := 1) (full := false) (a := ⟨w.heap.size, 0, none⟩) (cap := grownCap w bs.data.toList.length 0 e) k3
            (fun _ => by simp [drew]) hgc (by simp only [Array.length_toList, hsz1]; omega) (by simp) (fun _ => by simp only [hl1]; omega)
          exact this
      · cases he
    · cases he
  · rename_i t hsrc hdst
    split at he
    · rename_i b off n hsz
      split at he
      · rename_i cs ro T hb
        split at he
        · rename_i hlt
          cases he
          obtain ⟨B, hB, hk, hr, C, lo, hi, hC, hlen, hcell, -⟩ := h.obs b _ hb rfl
          cases hx with
          | @ref _ _ B' hB' =>
            rw [hB] at hB'
            cases hB'
            have hsh : w.shape? B.g = some (T, C.size) := by unfold World.shape?; rw [hC]
            refine ⟨_, G, w, ?_, .ref hB, h, .refl G S w⟩
            have hnot : ¬ (C.size ≤ B.o + off) := by omega
            simp [convert, run_underlying P hsrc, run_underlying P hdst, Conv.unsafePointer, Conv.seenAt, viewAt, cellsIn, hsh, run_sizeOf P hsz, hnot]
        · cases he
      · cases he
    · cases he
  · rename_i u hsrc hdst
    split at he
    · rename_i b off n hn
      split at he
      · rename_i cs ro T hb
        split at he
        · rename_i hc
          obtain ⟨rfl, hc0, hc1, hlies⟩ := hc
          cases he
          obtain ⟨B, hB, hk, hr, C, lo, hi, hC, hlen, hcell, -⟩ := h.obs b _ hb rfl
          cases hx with
          | @ref _ _ B' hB' =>
            rw [hB] at hB'
            cases hB'
            have ho := (h.born b B hB).2
            have hsh : w.shape? B.g = some (T, C.size) := by unfold World.shape?; rw [hC]
            have hcnt : 1 ≤ C.size / P.cellsOf T := (Nat.one_le_div_iff (by omega)).2 (by omega)
            have hl2 : liesAt P P.depth T (C.size / P.cellsOf T) 0 u 1 = true := lies_more hlies hcnt
            refine ⟨_, G, w, ?_, .ref hB, h, .refl G S w⟩
            rw [ho, Nat.zero_add]
            simp [convert, run_underlying P hsrc, run_underlying P hdst, Conv.unsafePointer, Conv.seenAt, viewAt, variablesAt, hsh, run_sizeOf P hn, hl2]
        · cases he
      · cases he
    · cases he
  · cases he
end Go.Abs

namespace Go.Abs
theorem fold_over (l : List Value) : ∀ (k off : Nat) (C : Array Value), (l.zipIdx k).foldl (fun cs p => cs.setIfInBounds (off + p.2) p.1) C = overL C (off + k) l := by
  induction l with
  | nil => intro k off C; rfl
  | cons v r ih =>
    intro k off C
    simp only [List.zipIdx_cons, List.foldl_cons, overL]
    rw [ih]
    congr 1
theorem fold_over' (a : Array Value) (off : Nat) (C : Array Value) : (a.zipIdx.foldl (fun cs (p : Value × Nat) => match p with | (c, j) => cs.setIfInBounds (off + j) c) C) = overL C off a.toList := by
  have := fold_over a.toList 0 off C
  rw [Nat.add_zero] at this
  rw [← this, ← Array.foldl_toList]
  simp
theorem rel_over {G : Gh} {cs aq : List AV} {vs us : List Value} {off : Nat} (h : RelL G cs vs) (k : RelL G aq us) (hl : off + aq.length ≤ cs.length) :
    RelL G (setRange cs off aq) (overL vs.toArray off us).toList := by
  have hl' : off + us.length ≤ vs.toArray.size := by rw [← k.len]; simpa [← h.len] using hl
  refine ⟨by rw [setRange_length _ _ _ hl]; simp [overL_size, h.len], ?_⟩
  intro i a b ha hb
  rw [Array.getElem?_toList, overL_get _ _ _ _ hl'] at hb
  rw [setRange_get _ _ _ hl, k.len] at ha
  split at ha
  · rename_i hi; rw [if_pos hi] at hb; exact k.rel _ a b ha hb
  · rename_i hi; rw [if_neg hi] at hb; exact h.rel i a b ha (by simpa using hb)
theorem fill_rel {G : Gh} {place : Nat → Option (Nat × Nat)} : ∀ {ps : List (Nat × AV)} {qs : List (Nat × Value)} {cs cs' : List AV} {vs : List Value}, fillA place cs ps = some cs' →
    RelL G cs vs → ps.length = qs.length → (∀ (i : Nat) (p : Nat × AV) (q : Nat × Value), ps[i]? = some p → qs[i]? = some q → p.1 = q.1 ∧ RelA G p.2 q.2) →
    ∃ us : List Value, Instr.fill place vs.toArray qs = some us.toArray ∧ RelL G cs' us
  | [], [], cs, cs', vs, h, hr, _, _ => by simp [fillA] at h; subst h; exact ⟨vs, rfl, hr⟩
  | [], q :: qs, _, _, _, _, _, hl, _ => by simp at hl
  | p :: ps, [], _, _, _, _, _, hl, _ => by simp at hl
  | (i, v) :: ps, (j, x) :: qs, cs, cs', vs, h, hr, hl, hp => by
    obtain ⟨h1, h2⟩ := hp 0 _ _ rfl rfl
    simp only at h1 h2
    subst h1
    simp only [fillA] at h
    split at h
    · rename_i off n hpl
      split at h
      · rename_i hc
        obtain ⟨r1, r2⟩ := cells_rel h2 hc.2.2
        have hxs : x.cells.size = n := by have := r1.len; simp only [Array.length_toList] at this; omega
        have hle : off + v.cells.length ≤ cs.length := by omega
        obtain ⟨us, k1, k2⟩ := fill_rel h (rel_over hr r1 hle) (by simpa using hl) (fun i p q hp' hq' => hp (i + 1) p q (by simpa using hp') (by simpa using hq'))
        refine ⟨us, ?_, k2⟩
        simp only [Instr.fill, hpl]
        rw [if_neg (by have := hr.len; simp [hxs]; omega), fold_over']
        simpa using k1
      · cases h
    · cases h
theorem ofScalars_scalar : ∀ {vs : List Value} {l : List FV}, FV.ofScalars vs = some l → (l.map AV.c).all AV.scalar = true
  | [], l, h => by simp [FV.ofScalars] at h; subst h; rfl
  | v :: r, l, h => by
    simp only [FV.ofScalars] at h
    split at h
    · rename_i x m h1 h2
      cases h
      have := (ofScalar_rel (F := fun _ _ => none) h1).2
      simp only [List.map_cons, List.all_cons, Bool.and_eq_true]
      exact ⟨by cases x <;> first | rfl | exact absurd rfl (this _), ofScalars_scalar h2⟩
    · cases h
theorem zeroT_scalar {P : Program} {T : TypeId} {z : FV} (h : zeroT P T = some z) : (z.cells.map AV.c).all AV.scalar = true := by
  unfold zeroT at h
  split at h
  · split at h
    · rename_i i hi v hv
      unfold FV.ofValue at h
      split at h
      · split at h
        · rename_i l hl
          cases h
          exact ofScalars_scalar hl
        · cases h
      · have h2 := (ofScalar_rel (F := fun _ _ => none) h).2
        cases z <;> first | rfl | exact absurd rfl (h2 _)
    · cases h
  · cases h
theorem zero_cells {P : Program} {T : TypeId} {z : FV} (h : zeroT P T = some z) (G : Gh) (w : World) :
    ∃ v, Sem.run P (zeroValue T) w = .ok v w ∧ RelL G (z.cells.map AV.c) v.cells.toList ∧ v.cells.toList.all oneCell = true := by
  obtain ⟨v, h1, h2⟩ := run_zeroValue P h G.F w
  obtain ⟨r1, r2⟩ := cells_rel (G := G) (v := .c z) (.c h2) (zeroT_scalar h)
  exact ⟨v, h1, r1, r2⟩
theorem mapM_sizes {P : Program} (w : World) : ∀ {fs : List Field}, (fs.all fun f => (szT P f.type).isSome) = true →
    Sem.run P (fs.mapM fun f => do pure (f.offset, ← sizeOf f.type)) w = .ok (fs.map fun f => (f.offset, (szT P f.type).getD 0)) w
  | [], _ => rfl
  | f :: r, h => by
    simp only [List.all_cons, Bool.and_eq_true] at h
    obtain ⟨n, hn⟩ := Option.isSome_iff_exists.1 h.1
    rw [List.mapM_cons]
    simp only [Sem.run_bind, run_sizeOf P hn, Result.andThen_ok, Sem.run_pure, mapM_sizes w h.2]
    simp [hn]
theorem build_sound {P : Program} {G : Gh} {t : TypeId} {z : FV} {ps : List (Nat × AV)} {qs : List (Nat × Value)} {cs : List AV} (hz : zeroT P t = some z) (hok : placesOk P t = true)
    (he : fillA (placeA P t) (z.cells.map .c) ps = some cs) (hl : ps.length = qs.length)
    (hp : ∀ (i : Nat) (p : Nat × AV) (q : Nat × Value), ps[i]? = some p → qs[i]? = some q → p.1 = q.1 ∧ RelA G p.2 q.2) (w : World) :
    ∃ x, Sem.run P (Instr.build t qs.toArray) w = .ok x w ∧ RelA G (mkAgg cs) x := by
  obtain ⟨zv, z1, z2, z3⟩ := zero_cells hz G w
  unfold placesOk at hok
  split at hok
  · rename_i fs hu
    have hpl : placeA P t = fun i => ((fs.map fun f => (f.offset, (szT P f.type).getD 0))[i]?) := by
      funext i
      simp only [placeA, hu, Array.getElem?_map]
      cases hf : fs[i]? with
      | none => rfl
      | some f =>
        have hm : f ∈ fs.toList := by
          have := Array.mem_of_getElem? hf
          simpa using this
        obtain ⟨n, hn⟩ := Option.isSome_iff_exists.1 (List.all_eq_true.1 hok f hm)
        simp [hn]
    rw [hpl] at he
    obtain ⟨us, u1, u2⟩ := fill_rel he z2 hl hp
    refine ⟨.agg us.toArray, ?_, mkAgg_rel u2⟩
    have hmm := mapM_sizes (P := P) w hok
    have hma : Sem.run P (fs.mapM fun f => do pure (f.offset, ← sizeOf f.type)) w = .ok (fs.map fun f => (f.offset, (szT P f.type).getD 0)) w := by
      rw [Array.mapM_eq_mapM_toList]
      simp only [Sem.run_map, hmm, Result.andThen_ok]
      congr 1
      apply Array.ext'
      simp
    simp only [Array.toArray_toList] at u1
    simp only [Instr.build, Sem.run_bind, z1, Result.andThen_ok, run_underlying P hu, hma]
    rw [u1]
    rfl
  · rename_i n e hu
    obtain ⟨s, hs⟩ := Option.isSome_iff_exists.1 hok
    have hpl : placeA P t = fun i => some (i * s, s) := by
      funext i
      simp [placeA, hu, hs]
    rw [hpl] at he
    obtain ⟨us, u1, u2⟩ := fill_rel he z2 hl hp
    refine ⟨.agg us.toArray, ?_, mkAgg_rel u2⟩
    simp only [Array.toArray_toList] at u1
    simp only [Instr.build, Sem.run_bind, z1, Result.andThen_ok, run_underlying P hu, run_sizeOf P hs]
    rw [u1]
    rfl
  · cases hok
theorem repCells_get {s : Nat} (zc : List AV) (hs : zc.length = s) (h0 : 0 < s) : ∀ (n i : Nat), i < n * s → (repCells n zc)[i]? = zc[i % s]?
  | 0, i, h => by omega
  | n + 1, i, h => by
    simp only [repCells]
    rw [List.getElem?_append]
    split
    · rename_i hi
      rw [Nat.mod_eq_of_lt (by omega)]
    · rename_i hi
      rw [repCells_get zc hs h0 n (i - zc.length) (by rw [Nat.add_mul] at h; omega), hs]
      congr 1
      rw [hs] at hi
      have : i = (i - s) + s := by omega
      conv => rhs; rw [this]
      rw [Nat.add_mod_right]
theorem repCells_length {s : Nat} (zc : List AV) (hs : zc.length = s) : ∀ n, (repCells n zc).length = n * s
  | 0 => by simp [repCells]
  | n + 1 => by simp only [repCells, List.length_append, repCells_length zc hs n, hs, Nat.add_mul]; omega
theorem rep_rel {G : Gh} {zc : List AV} {zv : Array Value} {s n : Nat} (h : RelL G zc zv.toList) (hs : zc.length = s) (h0 : 0 < s) :
    RelL G (repCells n zc) ((Array.range (n * s)).map (fun i => zv[i % zv.size]!)).toList := by
  have hzs : zv.size = s := by have := h.len; simp only [Array.length_toList] at this; omega
  refine ⟨by simp [repCells_length zc hs], ?_⟩
  intro i a b ha hb
  have hi : i < n * s := by
    have := (List.getElem?_eq_some_iff.1 ha).1
    rwa [repCells_length zc hs] at this
  rw [repCells_get zc hs h0 n i hi] at ha
  have hmod : i % s < s := Nat.mod_lt _ h0
  have hb' : b = zv[i % s]! := by
    simp [hi, hzs] at hb
    exact hb.symm
  have : zv.toList[i % s]? = some b := by
    rw [hb']
    simp [hzs, hmod]
  exact h.rel _ a b ha this
theorem elemT_spec {P : Program} {t e : TypeId} (h : elemT P t = some e) : P.underlying t = some (.slice e) := by
  unfold elemT at h
  split at h
  · rename_i hu; cases h; exact hu
  · cases h
theorem buildSlice_sound {P : Program} {G : Gh} {S : St} {w : World} (h : Inv G S w) {t e : TypeId} {z : FV} {n s : Nat} {ps : List (Nat × AV)} {qs : List (Nat × Value)} {cs : List AV}
    (hu : elemT P t = some e) (hs : szT P e = some s) (hz : zeroT P e = some z) (hn : n * s ≤ 16777216) (h0 : 0 < s) (hzl : z.cells.length = s)
    (he : fillA (fun i => some (i * s, s)) (repCells n (z.cells.map .c)) ps = some cs) (hsc : cs.all AV.scalar = true) (hl : ps.length = qs.length)
    (hp : ∀ (i : Nat) (p : Nat × AV) (q : Nat × Value), ps[i]? = some p → qs[i]? = some q → p.1 = q.1 ∧ RelA G p.2 q.2) :
    ∃ x G' w', Sem.run P (Instr.buildSlice t n qs.toArray) w = .ok x w' ∧ RelA G' (.sl S.next 0 n s true) x ∧ Inv G' (S.new (.blk cs 0 e)) w' ∧ Ext G S w G' (S.new (.blk cs 0 e)) w' := by
  obtain ⟨zv, z1, z2, z3⟩ := zero_cells hz G w
  have hzl' : (z.cells.map AV.c).length = s := by simpa using hzl
  have hrep := rep_rel (n := n) z2 hzl' h0
  obtain ⟨us, u1, u2⟩ := fill_rel he hrep hl hp
  simp only [Array.toArray_toList] at u1
  have hcl : cs.length = n * s := by
    have : ∀ {ps : List (Nat × AV)} {c c' : List AV}, fillA (fun i => some (i * s, s)) c ps = some c' → c'.length = c.length := by
      intro ps
      induction ps with
      | nil => intro c c' h; simp [fillA] at h; rw [h]
      | cons p ps ih =>
        intro c c' h
        obtain ⟨i, v⟩ := p
        simp only [fillA] at h
        split at h
        · rename_i hc
          rw [ih h, setRange_length _ _ _ (by omega)]
        · cases h
    rw [this he, repCells_length _ hzl']
  obtain ⟨G', k1, k2, k3⟩ := inv_new_blk h cs 0 us e 0 0 (by rw [u2.len]; exact Nat.le_refl _) (fun i a ha => by
    obtain ⟨v, v1, v2⟩ := relL_cell u2 ha
    exact ⟨v, v1, v2, scalar_one v2 (List.all_eq_true.1 hsc a (List.mem_of_getElem? ha))⟩) (by intro j _; omega)
  refine ⟨.slice (some ⟨w.heap.size, 0, none⟩) n n, G', _, ?_, ?_, k1, k2⟩
  · have hlim : ¬ (n * s > 2 ^ 24) := by omega
    have hrow : ∀ (cells : Array Value) (w1 : World), Sem.run P (newRow e cells) w1 = .ok ⟨w1.heap.size, 0, none⟩ (wh w1 (w1.heap.push (.cells cells e (0, 0)))) := fun cells w1 => by
      simp [newRow, newObj, Sem.run, wh]
    simp only [Instr.buildSlice, Sem.run_bind, run_underlying P (elemT_spec hu), Result.andThen_ok, run_sizeOf P hs]
    rw [if_neg hlim]
    by_cases hz0 : n * s = 0
    · have hqs : n = 0 := by
        rcases Nat.mul_eq_zero.1 hz0 with h | h
        · exact h
        · omega
      subst hqs
      have e0 : ((Array.range (0 * s)).map fun i => zv.cells[i % zv.cells.size]!) = #[] := by simp
      rw [e0] at u1
      have e1 : ((Array.range (0 * s)).map fun i => (#[] : Array Value)[i % (#[] : Array Value).size]!) = #[] := by simp
      simp only [if_pos hz0, Sem.run_bind, Sem.run_pure, Result.andThen_ok]
      rw [e1, u1]
      simp [hrow]
    · simp only [hz0, if_false, Sem.run_bind, z1, Result.andThen_ok, Sem.run_pure]
      rw [u1]
      simp [hrow]
  · have hul : us.length = n * s := by rw [← u2.len, hcl]
    have := RelA.sl (G := G') (b := S.next) (off := 0) (len := n) (s := s) (full := true) (a := ⟨w.heap.size, 0, none⟩) (cap := n) k3 (fun _ => by simp) (Nat.le_refl _) (by simp only [hul]; omega) (fun _ => rfl) (by simp)
    exact this
end Go.Abs

namespace Go.Abs
theorem wrap_small {n : Int} (h0 : 0 ≤ n) (h1 : n ≤ 9223372036854775807) : IntKind.i64.wrap n = n := IntWalk.i64_in n (by omega)
theorem run_newRow (P : Program) (e : TypeId) (cells : Array Value) (w : World) : Sem.run P (newRow e cells) w = .ok ⟨w.heap.size, 0, none⟩ (wh w (w.heap.push (.cells cells e (0, 0)))) := by
  simp [newRow, newObj, Sem.run, wh]
theorem push_new (w : World) (o : Obj) : (wh w (w.heap.push o)).heap[w.heap.size]? = some o := by
  show (w.heap.push o)[w.heap.size]? = some o
  simp
theorem bytes_eta (bs : ByteArray) : (⟨bs.data.toList.toArray⟩ : ByteArray) = bs := by
  cases bs; simp
theorem makeSlice_sound {P : Program} {G : Gh} {S : St} {w : World} (h : Inv G S w) {t e : TypeId} {i : TypeInfo} {z : FV} {a b : Int} (hu : elemT P t = some e) (hi : P.info? e = some i) (hz : zeroT P e = some z)
    (h0 : 0 ≤ a) (hab : a ≤ b) (hb : b.toNat * i.bytes ≤ maxLenA) (hb0 : 0 < i.bytes) (hs0 : 0 < i.size) (hzl : z.cells.length = i.size) :
    ∃ x G' w', Sem.run P (Instr.makeSlice t (.int .i64 a) (.int .i64 b)) w = .ok x w' ∧ RelA G' (.sl S.next 0 a.toNat i.size (decide (a = b))) x ∧
      Inv G' (S.new (.blk (repCells b.toNat (z.cells.map .c)) 0 e)) w' ∧ Ext G S w G' (S.new (.blk (repCells b.toNat (z.cells.map .c)) 0 e)) w' := by
  obtain ⟨zv, z1, z2, z3⟩ := zero_cells hz G w
  have hzl' : (z.cells.map AV.c).length = i.size := by simpa using hzl
  have hbig : b.toNat ≤ maxLenA := Nat.le_trans (Nat.le_mul_of_pos_right _ hb0) hb
  have hbz : (b.toNat : Int) = b := Int.toNat_of_nonneg (by omega)
  have hbl : b ≤ 140737488355328 := by unfold maxLenA at hbig; omega
  have hwa : IntKind.i64.wrap a = a := wrap_small h0 (by omega)
  have hwb : IntKind.i64.wrap b = b := wrap_small (by omega) (by omega)
  have hrep := rep_rel (n := b.toNat) z2 hzl' hs0
  have hcl : (repCells b.toNat (z.cells.map AV.c)).length = b.toNat * i.size := repCells_length _ hzl' _
  have hsc : ∀ a' ∈ repCells b.toNat (z.cells.map AV.c), a'.scalar = true := by
    have hall := zeroT_scalar hz
    generalize b.toNat = n
    induction n with
    | zero => intro a' ha; simp [repCells] at ha
    | succ n ih =>
      intro a' ha
      simp only [repCells, List.mem_append] at ha
      rcases ha with ha | ha
      · exact List.all_eq_true.1 hall a' ha
      · exact ih a' ha
  obtain ⟨G', k1, k2, k3⟩ := inv_new_blk h (repCells b.toNat (z.cells.map .c)) 0 (((Array.range (b.toNat * i.size)).map (fun j => zv.cells[j % zv.cells.size]!)).toList) e 0 0 (by rw [hrep.len]; exact Nat.le_refl _) (fun j a' ha => by
    obtain ⟨v, v1, v2⟩ := relL_cell hrep ha
    exact ⟨v, v1, v2, scalar_one v2 (hsc a' (List.mem_of_getElem? ha))⟩) (by intro j _; omega)
  have hbb : ¬ ((i.bytes : Int) * b > 2 ^ 48) := by
    have : (i.bytes : Int) * b = ((b.toNat * i.bytes : Nat) : Int) := by rw [Int.natCast_mul, hbz, Int.mul_comm]
    rw [this]
    unfold maxLenA at hb
    omega
  have hbn : ¬ b < 0 := by omega
  have han : ¬ a < 0 := by omega
  have hal : ¬ a > b := by omega
  have hroom : ∀ n w1, Sem.run P (askRoom n) w1 = .ok () w1 := fun n w1 => by
    unfold askRoom; split <;> simp [mark, Sem.run]
  have hti := run_typeInfo P hi
  have hsz : ∀ w1, Sem.run P (sizeOf e) w1 = .ok i.size w1 := fun w1 => run_sizeOf P (by simp [szT, hi]) w1
  refine ⟨.slice (some ⟨w.heap.size, 0, none⟩) a.toNat b.toNat, G', _, ?_, ?_, k1, k2⟩
  · have hc : (decide (b < 0) || decide ((i.bytes : Int) * b > 2 ^ 48)) = false := by simp [hbn]; omega
    have hcond : ((decide (b < 0) || decide ((i.bytes : Int) * b > 2 ^ 48)) || decide (a < 0) || decide (a > b)) = false := by rw [hc]; simp [han]; omega
    simp only [Instr.makeSlice, Sem.run_bind, run_underlying P (elemT_spec hu), Result.andThen_ok, asInt, asIntOf, Sem.run_pure, hti, hwa, hwb, hcond, Bool.false_eq_true, if_false, hroom, hsz]
    split
    · rename_i hz0
      have hr0 : Array.range (b.toNat * i.size) = #[] := by rw [hz0]; rfl
      simp only [Sem.run_bind, Sem.run_pure, Result.andThen_ok, run_newRow, hr0, Array.map_empty]
    · simp only [Sem.run_bind, z1, Sem.run_pure, Result.andThen_ok, run_newRow, Array.toArray_toList]
  · have hll : ((Array.range (b.toNat * i.size)).map (fun j => zv.cells[j % zv.cells.size]!)).toList.length = b.toNat * i.size := by simp
    have := RelA.sl (G := G') (b := S.next) (off := 0) (len := a.toNat) (s := i.size) (full := decide (a = b)) (a := ⟨w.heap.size, 0, none⟩) (cap := b.toNat) k3 (fun _ => by simp) (by omega)
      (by simp only [hll]; omega) (fun hd => by have : a = b := by simpa using hd
                                                rw [this]) (fun _ => by simp only [hcl]; omega)
    exact this
theorem makeMap_sound {P : Program} {G : Gh} {S : St} {w : World} (h : Inv G S w) (t : TypeId) :
    ∃ x G' w', Sem.run P (Instr.makeMap t none) w = .ok x w' ∧ RelA G' (.map S.next) x ∧ Inv G' (S.new (.map [] [] 0)) w' ∧ Ext G S w G' (S.new (.map [] [] 0)) w' := by
  obtain ⟨k1, k2⟩ := inv_new h (.map [] [] 0) (.map #[] 0) 0 0 ⟨[], push_new w _, rfl, fun i e p he => by simp at he, fun j v hj => by
    have := cell_lt (h.cells _ _ _ hj)
    simp only at this; omega, rfl⟩
  exact ⟨.map (some w.heap.size), _, _, by simp [Instr.makeMap, newObj, Sem.run, wh], .map (B := ⟨w.heap.size, 0, 0, 0⟩) (Gh.bind_self _ _ _), k1, k2⟩
theorem range_sound {P : Program} {G : Gh} {S : St} {w : World} (h : Inv G S w) {t : TypeId} (hu : P.underlying t = some .string) {s : List UInt8} {x : Value} (hx : RelA G (.c (.str s)) x) :
    ∃ y G' w', Sem.run P (Instr.range t x) w = .ok y w' ∧ RelA G' (.iter S.next) y ∧ Inv G' (S.new (.siter s 0)) w' ∧ Ext G S w G' (S.new (.siter s 0)) w' := by
  cases relA_c hx with
  | str bs =>
    obtain ⟨k1, k2⟩ := inv_new h (.siter bs.data.toList 0) (.stringIter bs 0) 0 0 ⟨by rw [bytes_eta]; exact push_new w _, fun j v hj => by
      have := cell_lt (h.cells _ _ _ hj)
      simp only at this; omega⟩
    exact ⟨_, _, _, by simp [Instr.range, run_underlying P hu, newObj, Sem.run, wh], .iter (B := ⟨w.heap.size, 0, 0, 0⟩) (Gh.bind_self _ _ _), k1, k2⟩
theorem rangeMap_sound {P : Program} {G : Gh} {S : St} {w : World} (h : Inv G S w) {t kt et : TypeId} (hu : P.underlying t = some (.map kt et)) {b : Nat} {es : List (FV × AV)} {born : List Nat} {clock : Nat}
    (hb : S.get b = some (.map es born clock)) {x : Value} (hx : RelA G (.map b) x) :
    ∃ y G' w', Sem.run P (Instr.range t x) w = .ok y w' ∧ RelA G' (.iter S.next) y ∧ Inv G' (S.new (.miter b clock [])) w' ∧ Ext G S w G' (S.new (.miter b clock [])) w' := by
  cases hx with
  | @map _ B hB =>
    obtain ⟨B', hB', ms, k1, k2, k3, k4, k5⟩ := h.obs _ _ hb rfl
    rw [hB] at hB'
    cases hB'
    have hlt : b < S.next := h.wf _ _ hb
    obtain ⟨r1, r2⟩ := inv_new h (.miter b clock []) (.mapIter (some B.g) clock #[] clock) 0 0 ⟨⟨B, by rw [Gh.bind_ne _ _ (by omega)]; exact hB, push_new w _⟩, fun j v hj => by
      have := cell_lt (h.cells _ _ _ hj)
      simp only at this; omega⟩
    have hgo : Sem.run P (getObj B.g) w = .ok (.map ms.toArray clock) w := by simp [getObj, Sem.run, k1]
    refine ⟨.pointer (some ⟨w.heap.size, 0, none⟩), _, _, ?_, .iter (B := ⟨w.heap.size, 0, 0, 0⟩) (Gh.bind_self _ _ _), r1, r2⟩
    simp only [Instr.range, Sem.run_bind, run_underlying P hu, Result.andThen_ok, hgo, Sem.run_pure]
    rfl
theorem rangeNil_sound {P : Program} {G : Gh} {S : St} {w : World} (h : Inv G S w) {t kt et : TypeId} (hu : P.underlying t = some (.map kt et)) {x : Value} (hx : RelA G (.c .nilm) x) :
    ∃ y G' w', Sem.run P (Instr.range t x) w = .ok y w' ∧ RelA G' (.iter S.next) y ∧ Inv G' (S.new .niter) w' ∧ Ext G S w G' (S.new .niter) w' := by
  cases relA_c hx
  obtain ⟨r1, r2⟩ := inv_new h .niter (.mapIter none 0 #[] 0) 0 0 ⟨push_new w _, fun j v hj => by
    have := cell_lt (h.cells _ _ _ hj)
    simp only at this; omega⟩
  refine ⟨.pointer (some ⟨w.heap.size, 0, none⟩), _, _, ?_, .iter (B := ⟨w.heap.size, 0, 0, 0⟩) (Gh.bind_self _ _ _), r1, r2⟩
  simp only [Instr.range, Sem.run_bind, run_underlying P hu, Result.andThen_ok, Sem.run_pure]
  rfl
theorem keyEq_sound {F : Nat → Nat → Option Value} {a b : FV} {x y : Value} {r : Bool} {d : TypeDesc} (h : keyEq a b = some r) (hx : RelF F a x) (hy : RelF F b y)
    (hd : (∃ k, d = .int k) ∨ d = .string) (hk : ∀ k n, a = .int k n → ∃ k', d = .int k') (hs : ∀ s, a = .str s → d = .string) : Instr.sameNow d x y = some r := by
  unfold keyEq at h
  split at h
  · split at h
    · rename_i e
      subst e
      cases h
      cases hx; cases hy
      obtain ⟨k', rfl⟩ := hk _ _ rfl
      simp [Instr.sameNow]
    · cases h
  · cases h
    cases hx; cases hy
    have := hs _ rfl
    subst this
    simp [Instr.sameNow, str_beq]
  · cases h
theorem findA_sound {G : Gh} {k : FV} {x : Value} {d : TypeDesc} (hx : RelF G.F k x) (hd : (∃ k, d = .int k) ∨ d = .string) (hk : ∀ j n, k = .int j n → ∃ k', d = .int k') (hs : ∀ s, k = .str s → d = .string) :
    ∀ {es : List (FV × AV)} {ms : List MapEntry} {r : Option AV} (i : Nat), findA k es = some r → ms.length = es.length →
    (∀ (i : Nat) (e : MapEntry) (p : FV × AV), ms[i]? = some e → es[i]? = some p → RelF G.F p.1 e.key ∧ RelA G p.2 e.val) →
    (r = none ∧ Instr.findNow d x ms i = some none) ∨ ∃ v j e, r = some v ∧ ms[j]? = some e ∧ RelA G v e.val ∧ Instr.findNow d x ms i = some (some (i + j, e.val)) ∧
      (∃ p, es[j]? = some p ∧ keyEq k p.1 = some true) ∧ (∀ v', updA k v' es = some (es.set j (k, v')))
  | [], [], r, i, h, _, _ => by simp [findA] at h; subst h; exact .inl ⟨rfl, rfl⟩
  | [], m :: ms, _, _, _, hl, _ => by simp at hl
  | p :: es, [], _, _, _, hl, _ => by simp at hl
  | (k', v) :: es, m :: ms, r, i, h, hl, hr => by
    obtain ⟨h1, h2⟩ := hr 0 m (k', v) rfl rfl
    simp only [findA] at h
    split at h
    · rename_i hke
      cases h
      have := keyEq_sound hke hx h1 hd hk hs
      exact .inr ⟨v, 0, m, rfl, rfl, h2, by simp [Instr.findNow, this], ⟨_, rfl, hke⟩, fun v' => by simp [updA, hke]⟩
    · rename_i hke
      have := keyEq_sound hke hx h1 hd hk hs
      rcases findA_sound hx hd hk hs (i + 1) h (by simpa using hl) (fun j e p he hp => hr (j + 1) e p (by simpa using he) (by simpa using hp)) with ⟨rfl, k2⟩ | ⟨v2, j, e, rfl, k1, k2, k3, k4, k5⟩
      · exact .inl ⟨rfl, by simp [Instr.findNow, this, k2]⟩
      · refine .inr ⟨v2, j + 1, e, rfl, by simpa using k1, k2, ?_, by simpa using k4, fun v' => by simp [updA, hke, k5 v']⟩
        simp only [Instr.findNow, this, k3]
        congr 3; omega
    · cases h
theorem mapT_spec {P : Program} {t k e : TypeId} (h : mapT P t = some (k, e)) : P.underlying t = some (.map k e) ∧ ∃ d, P.underlying k = some d ∧ ((∃ j, d = .int j) ∨ d = .string) := by
  unfold mapT at h
  split at h
  · rename_i k' e' hu
    split at h
    · rename_i j hk; cases h; exact ⟨hu, _, hk, .inl ⟨j, rfl⟩⟩
    · rename_i hk; cases h; exact ⟨hu, _, hk, .inr rfl⟩
    · cases h
  · cases h
theorem run_checkKey {P : Program} {k : TypeId} {d : TypeDesc} (hk : P.underlying k = some d) (hd : (∃ j, d = .int j) ∨ d = .string) (b : Bool) (v : Value) (w : World) :
    Sem.run P (Instr.checkKey b 10000 k v) w = .ok () w := by
  have : ∀ n, Sem.run P (Instr.checkKey b (n + 1) k v) w = .ok () w := fun n => by
    rcases hd with ⟨j, rfl⟩ | rfl
    · simp [Instr.checkKey, run_underlying P hk]
    · simp [Instr.checkKey, run_underlying P hk]
  exact this 9999
theorem keyFits_spec {P : Program} {t : TypeId} {k : FV} {d : TypeDesc} (h : keyFits P t k = true) (hd : P.underlying t = some d) :
    (∀ j n, k = .int j n → ∃ k', d = .int k') ∧ (∀ s, k = .str s → d = .string) := by
  unfold keyFits at h
  rw [hd] at h
  refine ⟨fun j n e => ?_, fun s e => ?_⟩
  · subst e
    cases d <;> first | exact ⟨_, rfl⟩ | (simp at h; done)
  · subst e
    cases d <;> first | rfl | (simp at h; done)
theorem lookup_sound {P : Program} {G : Gh} {S : St} {w : World} (h : Inv G S w) {t : TypeId} {m k v : AV} {ok : Bool} {xm xk : Value} (he : aLookup P t m k ok S = some v)
    (hm : RelA G m xm) (hk : RelA G k xk) : ∃ y, Sem.run P (Instr.lookup t xm xk ok) w = .ok y w ∧ RelA G v y := by
  unfold aLookup at he
  split at he
  case h_2 => cases he
  rename_i kt e kf ht
  obtain ⟨hu, d, hd, hdd⟩ := mapT_spec ht
  split at he
  case h_2 => cases he
  rename_i z hfit hz
  obtain ⟨hf1, hf2⟩ := keyFits_spec hfit hd
  obtain ⟨zv, z1, z2⟩ := run_zeroValue P hz G.F w
  split at he
  case h_2 => cases he
  rename_i es hes
  have hms : ∃ ms : List MapEntry, ((xm = .map none ∧ ms = []) ∨ ∃ g clock, xm = .map (some g) ∧ w.heap[g]? = some (.map ms.toArray clock)) ∧ ms.length = es.length ∧
      (∀ (i : Nat) (e : MapEntry) (p : FV × AV), ms[i]? = some e → es[i]? = some p → RelF G.F p.1 e.key ∧ RelA G p.2 e.val) := by
    split at hes
    · cases hes
      cases relA_c hm
      exact ⟨[], .inl ⟨rfl, rfl⟩, rfl, fun i e p he => by simp at he⟩
    · split at hes
      · rename_i es' born clock hb
        cases hes
        cases hm with
        | @map _ B hB =>
          obtain ⟨B', hB', ms, k1, k2, k3, k4, k5⟩ := h.obs _ _ hb rfl
          rw [hB] at hB'
          cases hB'
          exact ⟨ms, .inr ⟨_, _, rfl, k1⟩, k2, k3⟩
      · cases hes
    · cases hes
  obtain ⟨ms, m1, m2, m3⟩ := hms
  have hfk : ∀ r, findA kf es = some r → Sem.run P (Instr.findKey kt xk ms) w = (match Instr.findNow d xk ms 0 with | some r => .ok r w | none => Sem.run P (Instr.findAsking kt xk ms) w) := by
    intro r hr
    simp only [Instr.findKey, Sem.run_bind, run_underlying P hd, Result.andThen_ok]
    cases Instr.findNow d xk ms 0 <;> rfl
  have hrun : ∀ q : Option (Nat × Value), Instr.findNow d xk ms 0 = some q → (∃ r, findA kf es = some r) → Sem.run P (Instr.lookup t xm xk ok) w =
      .ok (if ok then .tuple #[(match q with | some (_, v) => v | none => zv), .bool q.isSome] else (match q with | some (_, v) => v | none => zv)) w := by
    intro q hq ⟨r, hr⟩
    have := hfk r hr
    rw [hq] at this
    rcases m1 with ⟨rfl, rfl⟩ | ⟨g, clock, rfl, hg⟩
    · simp only [Instr.lookup, Sem.run_bind, run_underlying P hu, Result.andThen_ok, Sem.run_pure, run_checkKey hd hdd, this]
      cases q with
      | none => simp [z1]
      | some p => obtain ⟨i, v⟩ := p; simp
    · have hgo : Sem.run P (getObj g) w = .ok (.map ms.toArray clock) w := by simp [getObj, Sem.run, hg]
      simp only [Instr.lookup, Sem.run_bind, run_underlying P hu, Result.andThen_ok, Sem.run_pure, hgo, run_checkKey hd hdd, this]
      cases q with
      | none => simp [z1]
      | some p => obtain ⟨i, v⟩ := p; simp
  split at he
  · rename_i v2 hfind
    cases he
    rcases findA_sound (relA_c hk) hdd hf1 hf2 0 hfind m2 m3 with ⟨hn, _⟩ | ⟨v3, j, en, hv, k1, k2, k3, k4, k6⟩
    · cases hn
    · cases hv
      refine ⟨_, hrun _ k3 ⟨_, hfind⟩, ?_⟩
      cases ok with
      | true => exact .tup (vs := [_, _]) rfl (fun i a b ha hb => by
          match i with
          | 0 => simp at ha hb; subst ha; subst hb; exact k2
          | 1 => simp at ha hb; subst ha; subst hb; exact .c (.bool true)
          | i + 2 => simp at ha)
      | false => exact k2
  · rename_i hfind
    cases he
    rcases findA_sound (relA_c hk) hdd hf1 hf2 0 hfind m2 m3 with ⟨_, k1⟩ | ⟨v3, j, en, hv, _⟩
    · refine ⟨_, hrun _ k1 ⟨_, hfind⟩, ?_⟩
      cases ok with
      | true => exact .tup (vs := [_, _]) rfl (fun i a b ha hb => by
          match i with
          | 0 => simp at ha hb; subst ha; subst hb; exact .c z2
          | 1 => simp at ha hb; subst ha; subst hb; exact .c (.bool false)
          | i + 2 => simp at ha)
      | false => exact .c z2
    · cases hv
  · cases he
theorem sameBits_self {d : TypeDesc} {x y : Value} (h : Instr.sameNow d x y = some true) : Instr.sameBits 10000 y x = true := by
  unfold Instr.sameNow at h
  split at h
  · split at h
    · rename_i e; subst e; simp at h; subst h; simp [Instr.sameBits]
    · cases h
  · simp only [Option.some.injEq] at h
    simp only [Instr.sameBits]
    rw [str_beq] at h ⊢
    simp only [beq_iff_eq] at h ⊢
    exact h.symm
  · simp at h; subst h; simp [Instr.sameBits]
  · cases h
theorem mapUpdate_sound {P : Program} {G : Gh} {S : St} {w : World} (h : Inv G S w) {t : TypeId} {m k v : AV} {xm xk xv : Value} {cm : List Cmd} (he : aMapUpdate P t m k v S = some cm)
    (hm : RelA G m xm) (hk : RelA G k xk) (hv : RelA G v xv) : ∃ w', Sem.run P (Instr.mapUpdate t xm xk xv) w = .ok () w' ∧ Inv G (S.run cm) w' ∧ Ext G S w G (S.run cm) w' := by
  unfold aMapUpdate at he
  split at he
  case h_2 => cases he
  rename_i kt et b kf ht
  obtain ⟨hu, d, hd, hdd⟩ := mapT_spec ht
  split at he
  case h_2 => cases he
  rename_i es born clock hb
  cases hm with
  | @map _ B hB =>
  obtain ⟨B', hB', ms, k1, k2, k3, k4, k5⟩ := h.obs _ _ hb rfl
  rw [hB] at hB'
  cases hB'
  have hg : B.g < w.heap.size := (h.born b B hB).1
  have hgo : Sem.run P (getObj B.g) w = .ok (.map ms.toArray clock) w := by simp [getObj, Sem.run, k1]
  have hset : ∀ o, Sem.run P (setObj B.g o) w = .ok () (wh w (w.heap.setIfInBounds B.g o)) := fun o => by simp [setObj, Sem.run, k1, wh]
  have hfk : ∀ q, Instr.findNow d xk ms 0 = some q → Sem.run P (Instr.findKey kt xk ms) w = .ok q w := by
    intro q hq
    simp only [Instr.findKey, Sem.run_bind, run_underlying P hd, Result.andThen_ok, hq]
    rfl
  have hFno : ∀ (o : Obj) j v, G.F B.g j = some v → (wh w (w.heap.setIfInBounds B.g o)).cell? ⟨B.g, j, none⟩ = some v := fun o j v hj => (k4 j v hj).elim
  split at he
  ·
    rename_i hfit hfind
    cases he
    obtain ⟨hf1, hf2⟩ := keyFits_spec hfit hd
    rcases findA_sound (relA_c hk) hdd hf1 hf2 0 hfind k2 k3 with ⟨_, hn⟩ | ⟨v3, j, en, hv, _⟩
    · obtain ⟨r1, r2⟩ := inv_upd h hb rfl (ob := .map (es ++ [(kf, v)]) (born ++ [clock]) (clock + 1)) rfl hB (.map (ms.toArray.push { key := xk, val := xv, born := clock }) (clock + 1)) (by
        refine ⟨ms ++ [{ key := xk, val := xv, born := clock }], by rw [wh_set_eq hg]; simp, by simp [k2], ?_, k4, by simp [k5]⟩
        intro i e p he hp
        rw [List.getElem?_append] at he hp
        rw [← k2] at hp
        split at he
        · rename_i hi; rw [if_pos hi] at hp; exact k3 i e p he hp
        · rename_i hi
          rw [if_neg hi] at hp
          have hi0 : i - ms.length = 0 := by
            rcases Nat.eq_zero_or_pos (i - ms.length) with h0 | h0
            · exact h0
            · rw [List.getElem?_eq_none (by simp; omega)] at he; cases he
          rw [hi0] at he hp
          simp at he hp
          subst he; subst hp
          exact ⟨relA_c hk, hv⟩) (hFno _)
      refine ⟨_, ?_, r1, r2⟩
      simp only [Instr.mapUpdate, Sem.run_bind, run_underlying P hu, Result.andThen_ok, hgo, run_checkKey hd hdd, hfk _ hn]
      rw [hset]
    · cases hv
  ·
    rename_i v0 hfit hfind
    obtain ⟨hf1, hf2⟩ := keyFits_spec hfit hd
    split at he
    case h_2 => cases he
    rename_i l hl
    cases he
    rcases findA_sound (relA_c hk) hdd hf1 hf2 0 hfind k2 k3 with ⟨hn, _⟩ | ⟨v3, j, en, hv', m1, m2, m3, ⟨p, m4, m5⟩, m6⟩
    · cases hn
    · rw [m6 v] at hl
      cases hl
      have hke := keyEq_sound m5 (relA_c hk) (k3 j en p m1 m4).1 hdd hf1 hf2
      have hsame := sameBits_self hke
      have hjl : j < ms.length := (List.getElem?_eq_some_iff.1 m1).1
      obtain ⟨r1, r2⟩ := inv_upd h hb rfl (ob := .map (es.set j (kf, v)) born clock) rfl hB (.map (ms.toArray.modify j fun e => { e with key := xk, val := xv }) clock) (by
        refine ⟨ms.modify j fun e => { e with key := xk, val := xv }, by rw [wh_set_eq hg]; simp, by simp [k2], ?_, k4, by
          rw [← k5]
          refine List.ext_getElem? fun i => ?_
          simp only [List.getElem?_map, List.getElem?_modify]
          by_cases hij : j = i
          · subst hij; simp [m1]
          · simp [hij]⟩
        intro i e q he hq
        by_cases hij : j = i
        · subst hij
          simp [m1] at he
          rw [List.getElem?_set, if_pos rfl, if_pos (by omega)] at hq
          simp at hq
          subst he; subst hq
          exact ⟨relA_c hk, hv⟩
        · simp [hij] at he
          rw [List.getElem?_set, if_neg hij] at hq
          exact k3 i e q he hq) (hFno _)
      refine ⟨_, ?_, r1, r2⟩
      have hkey : Sem.run P (Instr.keyThatStays en.key xk) w = .ok xk w := by simp [Instr.keyThatStays, hsame]
      have hget : ((ms.toArray[0 + j]?).map (·.key)).getD xk = en.key := by simp [m1]
      simp only [Instr.mapUpdate, Sem.run_bind, run_underlying P hu, Result.andThen_ok, hgo, run_checkKey hd hdd, hfk _ m3, hget, hkey]
      rw [hset, Nat.zero_add]
  · cases he
theorem next_sound {P : Program} {G : Gh} {S : St} {w : World} (h : Inv G S w) {b : Nat} {s : List UInt8} {pos : Nat} {x : Value} {ty : TypeId} (hb : S.get b = some (.siter s pos)) (hx : RelA G (.iter b) x) :
    if pos < s.length then ∃ y w', Sem.run P (Instr.next x true ty) w = .ok y w' ∧
        RelA G (.tup [.c (.bool true), .c (.int .i64 pos), .c (.int .i32 (Utf8.decode ⟨s.toArray⟩ pos).1)]) y ∧
        Inv G (S.put b (.siter s (pos + (Utf8.decode ⟨s.toArray⟩ pos).2))) w' ∧ Ext G S w G (S.put b (.siter s (pos + (Utf8.decode ⟨s.toArray⟩ pos).2))) w'
    else ∃ y, Sem.run P (Instr.next x true ty) w = .ok y w ∧ RelA G (.tup [.c (.bool false)]) y := by
  cases hx with
  | @iter _ B hB =>
  obtain ⟨B', hB', k1, k2⟩ := h.obs _ _ hb rfl
  rw [hB] at hB'
  cases hB'
  have hg : B.g < w.heap.size := (h.born b B hB).1
  have hgo : Sem.run P (getObj B.g) w = .ok (.stringIter ⟨s.toArray⟩ pos) w := by simp [getObj, Sem.run, k1]
  have hset : ∀ o, Sem.run P (setObj B.g o) w = .ok () (wh w (w.heap.setIfInBounds B.g o)) := fun o => by simp [setObj, Sem.run, k1, wh]
  have hsz : (⟨s.toArray⟩ : ByteArray).size = s.length := rfl
  split
  · rename_i hp
    obtain ⟨r1, r2⟩ := inv_upd h hb rfl (ob := .siter s (pos + (Utf8.decode ⟨s.toArray⟩ pos).2)) rfl hB (.stringIter ⟨s.toArray⟩ (pos + (Utf8.decode ⟨s.toArray⟩ pos).2)) ⟨wh_set_eq hg, k2⟩ (fun j v hj => (k2 j v hj).elim)
    refine ⟨.tuple #[.bool true, goInt pos, .int .i32 (Utf8.decode ⟨s.toArray⟩ pos).1], _, ?_, ?_, r1, r2⟩
    · simp only [Instr.next, Sem.run_bind, hgo, Result.andThen_ok, hsz, hp, if_true]
      rw [hset]
      rfl
    · exact .tup (vs := [_, _, _]) rfl (fun i a b ha hb => by
        match i with
        | 0 => simp at ha hb; subst ha; subst hb; exact .c (.bool true)
        | 1 => simp at ha hb; subst ha; subst hb; exact .c (.int _ _)
        | 2 => simp at ha hb; subst ha; subst hb; exact .c (.int _ _)
        | i + 3 => simp at ha)
  · rename_i hp
    refine ⟨.tuple #[.bool false], ?_, .tup (vs := [_]) rfl (fun i a b ha hb => by
        match i with
        | 0 => simp at ha hb; subst ha; subst hb; exact .c (.bool false)
        | i + 1 => simp at ha)⟩
    simp only [Instr.next, Sem.run_bind, hgo, Result.andThen_ok, hsz, hp, if_false]
    rfl
theorem leftOf_spec {G : Gh} (seen : List Nat) : ∀ {es : List (FV × AV)} {ms : List MapEntry}, ms.length = es.length →
    (∀ (i : Nat) (e : MapEntry) (p : FV × AV), ms[i]? = some e → es[i]? = some p → RelF G.F p.1 e.key ∧ RelA G p.2 e.val) →
    (ms.filter fun e => !seen.contains e.born).length = (leftOf seen es (ms.map (·.born))).length ∧
    ∀ (i : Nat) (e : MapEntry) (p : FV × AV × Nat), (ms.filter fun e => !seen.contains e.born)[i]? = some e → (leftOf seen es (ms.map (·.born)))[i]? = some p → RelF G.F p.1 e.key ∧ RelA G p.2.1 e.val ∧ p.2.2 = e.born
  | [], [], _, _ => ⟨rfl, fun i e p he => by simp at he⟩
  | [], m :: ms, hl, _ => by simp at hl
  | p :: es, [], hl, _ => by simp at hl
  | (k, v) :: es, m :: ms, hl, hr => by
    obtain ⟨h1, h2⟩ := leftOf_spec seen (es := es) (ms := ms) (by simpa using hl) (fun j e p he hp => hr (j + 1) e p (by simpa using he) (by simpa using hp))
    obtain ⟨r1, r2⟩ := hr 0 m (k, v) rfl rfl
    simp only [List.map_cons, leftOf, List.filter_cons]
    cases seen.contains m.born with
    | true => exact ⟨h1, h2⟩
    | false =>
      simp only [Bool.not_false, if_true, cond_false, List.length_cons, h1, true_and]
      intro i e p he hp
      cases i with
      | zero => simp at he hp; subst he; subst hp; exact ⟨r1, r2, rfl⟩
      | succ i => simp at he hp; exact h2 i e p (by simpa using he) (by simpa using hp)
theorem entOf_spec {G : Gh} (n : Nat) : ∀ {es : List (FV × AV)} {ms : List MapEntry} {p : FV × AV}, ms.length = es.length →
    (∀ (i : Nat) (e : MapEntry) (p : FV × AV), ms[i]? = some e → es[i]? = some p → RelF G.F p.1 e.key ∧ RelA G p.2 e.val) →
    entOf n es (ms.map (·.born)) = some p → ∃ e, ms.find? (·.born == n) = some e ∧ RelF G.F p.1 e.key ∧ RelA G p.2 e.val
  | [], [], _, _, _, h => by simp [entOf] at h
  | [], m :: ms, _, hl, _, _ => by simp at hl
  | p :: es, [], _, hl, _, _ => by simp at hl
  | q :: es, m :: ms, p, hl, hr, h => by
    simp only [List.map_cons, entOf] at h
    cases hb : Nat.beq m.born n with
    | true =>
      rw [hb] at h
      obtain rfl : q = p := by simpa using h
      have : (m.born == n) = true := by simpa using Nat.eq_of_beq_eq_true hb
      exact ⟨m, by simp [List.find?, this], hr 0 m q rfl rfl⟩
    | false =>
      rw [hb] at h
      have : (m.born == n) = false := by
        cases h' : m.born == n with
        | false => rfl
        | true => have := beq_iff_eq.1 h'; subst this; simp at hb
      obtain ⟨e, h1, h2⟩ := entOf_spec n (es := es) (ms := ms) (by simpa using hl) (fun j e p he hp => hr (j + 1) e p (by simpa using he) (by simpa using hp)) h
      exact ⟨e, by simp [List.find?, this, h1], h2⟩
theorem tup1 {G : Gh} {a : AV} {x : Value} (ha : RelA G a x) : RelA G (.tup [a]) (.tuple #[x]) :=
  .tup (vs := [x]) rfl (fun i p q hp hq => by
    match i with
    | 0 => simp at hp hq; subst hp; subst hq; exact ha
    | i + 1 => simp at hp)
theorem tup3 {G : Gh} {a b c : AV} {x y z : Value} (ha : RelA G a x) (hb : RelA G b y) (hc : RelA G c z) : RelA G (.tup [a, b, c]) (.tuple #[x, y, z]) :=
  .tup (vs := [x, y, z]) rfl (fun i p q hp hq => by
    match i with
    | 0 => simp at hp hq; subst hp; subst hq; exact ha
    | 1 => simp at hp hq; subst hp; subst hq; exact hb
    | 2 => simp at hp hq; subst hp; subst hq; exact hc
    | i + 3 => simp at hp)
theorem nextNil_sound {P : Program} {G : Gh} {S : St} {w : World} (h : Inv G S w) {b : Nat} {x : Value} {ty : TypeId} (hb : S.get b = some .niter) (hx : RelA G (.iter b) x) :
    ∃ y, Sem.run P (Instr.next x false ty) w = .ok y w ∧ RelA G (.tup [.c (.bool false)]) y := by
  cases hx with
  | @iter _ B hB =>
  obtain ⟨B', hB', k1, k2⟩ := h.obs _ _ hb rfl
  rw [hB] at hB'
  cases hB'
  have hgo : Sem.run P (getObj B.g) w = .ok (.mapIter none 0 #[] 0) w := by simp [getObj, Sem.run, k1]
  refine ⟨.tuple #[.bool false], ?_, tup1 (.c (.bool false))⟩
  simp only [Instr.next, Sem.run_bind, hgo, Result.andThen_ok]
  rfl
theorem entry_sound {P : Program} {G : Gh} {S : St} {w : World} (h : Inv G S w) {b m clock n : Nat} {seen : List Nat} {es : List (FV × AV)} {born : List Nat} {p : FV × AV} {x : Value}
    (hb : S.get b = some (.miter m clock seen)) (hm : S.get m = some (.map es born clock)) (hn : seen.getLast? = some n) (hp : entOf n es born = some p) (hx : RelA G (.iter b) x) :
    ∃ y, Sem.run P (Instr.entry x) w = .ok y w ∧ RelA G (.tup [.c p.1, p.2]) y := by
  cases hx with
  | @iter _ B hB =>
  obtain ⟨B', hB', ⟨Bm, hBm, k1⟩, k2⟩ := h.obs _ _ hb rfl
  rw [hB] at hB'
  cases hB'
  obtain ⟨Bm', hBm', ms, m1, m2, m3, m4, m5⟩ := h.obs _ _ hm rfl
  rw [hBm] at hBm'
  cases hBm'
  have hgo : Sem.run P (getObj B.g) w = .ok (.mapIter (some Bm.g) clock seen.toArray clock) w := by simp [getObj, Sem.run, k1]
  have hgm : Sem.run P (getObj Bm.g) w = .ok (.map ms.toArray clock) w := by simp [getObj, Sem.run, m1]
  rw [← m5] at hp
  obtain ⟨e, e1, e2, e3⟩ := entOf_spec n m2 m3 hp
  refine ⟨.tuple #[e.key, e.val], ?_, tup2' (.c e2) e3⟩
  have hback : seen.toArray.back? = some n := by rw [List.back?_toArray]; exact hn
  simp only [Instr.entry, Sem.run_bind, hgo, Result.andThen_ok, hback, hgm]
  simp [e1]
where tup2' {a b : AV} {x y : Value} (ha : RelA G a x) (hb : RelA G b y) : RelA G (.tup [a, b]) (.tuple #[x, y]) :=
  .tup (vs := [x, y]) rfl (fun i p q hp hq => by
    match i with
    | 0 => simp at hp hq; subst hp; subst hq; exact ha
    | 1 => simp at hp hq; subst hp; subst hq; exact hb
    | i + 2 => simp at hp)
theorem next_run {P : Program} {r g clock i : Nat} {w w1 : World} {Sn : Array Nat} {A FA : Array MapEntry} {CA : Array (Option MapEntry)} {ty : TypeId}
    (hgo : Sem.run P (getObj r) w = .ok (.mapIter (some g) clock Sn clock) w) (hgm : Sem.run P (getObj g) w = .ok (.map A clock) w)
    (hchk : (!Sn.isEmpty && !A.isEmpty && A.all fun e => decide (e.born ≥ clock)) = false)
    (hfil : (A.filter fun e => !Sn.contains e.born) = FA) (ho : (FA.filter fun e => decide (e.born < clock)) = FA) (hn : (FA.filter fun e => decide (e.born ≥ clock)) = #[])
    (hcand : ((if FA.isEmpty = true then #[none] else #[]) ++ (FA ++ #[]).map some) = CA) (hch : Sem.run P (choose (.mapNext CA.size)) w = .ok i w1) :
    Sem.run P (Instr.next (.pointer (some ⟨r, 0, none⟩)) false ty) w = (match CA[i]? with
      | some (some e) => (Sem.run P (setObj r (.mapIter (some g) clock (Sn.push e.born) clock)) w1).andThen fun _ w2 => .ok (.tuple #[.bool true, e.key, e.val]) w2
      | some none => .ok (.tuple #[.bool false]) w1
      | none => Sem.run P (stuck "Next: no such candidate") w1) := by
  simp only [Instr.next, Sem.run_bind, hgo, Result.andThen_ok, hgm, hchk, Bool.false_eq_true, if_false, hfil, ho, hn, hcand, hch]
  cases CA[i]? with
  | none => rfl
  | some x =>
    cases x with
    | none => rfl
    | some e => simp only [Sem.run_bind, Sem.run_pure]
theorem nextMap_sound {P : Program} {G : Gh} {S : St} {w : World} (h : Inv G S w) {b m clock : Nat} {seen : List Nat} {es : List (FV × AV)} {born : List Nat} {x : Value} {ty : TypeId}
    (hb : S.get b = some (.miter m clock seen)) (hm : S.get m = some (.map es born clock)) (hborn : born.all (fun n => Nat.blt n clock) = true) (hx : RelA G (.iter b) x) :
    (leftOf seen es born = [] → ∃ y, Sem.run P (Instr.next x false ty) w = .ok y w ∧ RelA G (.tup [.c (.bool false)]) y) ∧
    (leftOf seen es born ≠ [] → ∃ p ∈ leftOf seen es born, ∃ y w', Sem.run P (Instr.next x false ty) w = .ok y w' ∧ RelA G (.tup [.c (.bool true), .c p.1, p.2.1]) y ∧
        Inv G (S.put b (.miter m clock (seen ++ [p.2.2]))) w' ∧ Ext G S w G (S.put b (.miter m clock (seen ++ [p.2.2]))) w') := by
  cases hx with
  | @iter _ B hB =>
  obtain ⟨B', hB', ⟨Bm, hBm, k1⟩, k2⟩ := h.obs _ _ hb rfl
  rw [hB] at hB'
  cases hB'
  obtain ⟨Bm', hBm', ms, m1, m2, m3, m4, m5⟩ := h.obs _ _ hm rfl
  rw [hBm] at hBm'
  cases hBm'
  have hg : B.g < w.heap.size := (h.born b B hB).1
  have hgo : Sem.run P (getObj B.g) w = .ok (.mapIter (some Bm.g) clock seen.toArray clock) w := by simp [getObj, Sem.run, k1]
  have hgm : Sem.run P (getObj Bm.g) w = .ok (.map ms.toArray clock) w := by simp [getObj, Sem.run, m1]
  subst m5
  have hold : ∀ e ∈ ms, e.born < clock := by
    intro e he
    have := List.all_eq_true.1 hborn e.born (List.mem_map.2 ⟨e, he, rfl⟩)
    exact blt_lt' this
  obtain ⟨l1, l2⟩ := leftOf_spec (G := G) seen m2 m3
  have hchk : (!seen.toArray.isEmpty && !ms.toArray.isEmpty && ms.toArray.all fun e => decide (e.born ≥ clock)) = false := by
    cases ms with
    | nil => simp
    | cons e r =>
      have := hold e (by simp)
      have : ¬ (clock ≤ e.born) := by omega
      simp [this]
  have hfil : (ms.toArray.filter fun e => !seen.toArray.contains e.born) = (ms.filter fun e => !seen.contains e.born).toArray := by simp
  generalize hF : (ms.filter fun e => !seen.contains e.born) = F at *
  have hFmem : ∀ e ∈ F, e.born < clock := by
    intro e he
    rw [← hF] at he
    exact hold e (List.mem_filter.1 he).1
  have ho : (F.toArray.filter fun e => decide (e.born < clock)) = F.toArray := by
    have : F.filter (fun e => decide (e.born < clock)) = F := List.filter_eq_self.2 fun e he => by simpa using hFmem e he
    simp [this]
  have hn : (F.toArray.filter fun e => decide (e.born ≥ clock)) = #[] := by
    have : F.filter (fun e => decide (e.born ≥ clock)) = [] := List.filter_eq_nil_iff.2 fun e he => by have := hFmem e he; simp; omega
    simp [this]
  constructor
  · intro hnil
    rw [hnil] at l1
    have hF0 : F = [] := List.eq_nil_of_length_eq_zero (by simpa using l1)
    subst hF0
    refine ⟨.tuple #[.bool false], ?_, tup1 (.c (.bool false))⟩
    rw [next_run (i := 0) (w1 := w) (CA := #[none]) hgo hgm hchk hfil ho hn (by simp) (by simp [choose, Sem.run, Question.forced])]
    rfl
  · intro hne
    have hlen : 0 < F.length := by rw [l1]; exact List.length_pos_iff.2 hne
    have hFe : F.toArray.isEmpty = false := by
      cases F with
      | nil => simp at hlen
      | cons e r => simp
    have hch : ∃ i w1, i < F.length ∧ Sem.run P (choose (.mapNext F.length)) w = .ok i w1 ∧ (w1 = w ∨ w1 = drew w) := by
      by_cases hf : F.length ≤ 1
      · exact ⟨0, w, hlen, by simp [choose, Sem.run, Question.forced, hf], .inl rfl⟩
      · refine ⟨(Question.mapNext F.length).cut (w.tape w.drawn (.mapNext F.length)), drew w, ?_, by simp [choose, Sem.run, Question.forced, hf, drew], .inr rfl⟩
        exact Nat.mod_lt _ hlen
    obtain ⟨i, w1, hi, hrun, hw1⟩ := hch
    have hI1 : Inv G S w1 ∧ Ext G S w G S w1 := by
      rcases hw1 with rfl | rfl
      · exact ⟨h, .refl G S _⟩
      · exact ⟨h.drew, Ext.drew G S w⟩
    have hh : w1.heap = w.heap := by rcases hw1 with rfl | rfl <;> rfl
    have hFi : F[i]? = some F[i] := by simp [hi]
    have hli : i < (leftOf seen es (ms.map (·.born))).length := by omega
    have hLi : (leftOf seen es (ms.map (·.born)))[i]? = some (leftOf seen es (ms.map (·.born)))[i] := by simp [hli]
    obtain ⟨e1, e2, e3⟩ := l2 i _ _ hFi hLi
    have hset : ∀ o, Sem.run P (setObj B.g o) w1 = .ok () (wh w1 (w1.heap.setIfInBounds B.g o)) := fun o => by simp [setObj, Sem.run, hh, k1, wh]
    have hg1 : B.g < w1.heap.size := by rw [hh]; exact hg
    obtain ⟨r1, r2⟩ := inv_upd hI1.1 hb rfl (ob := .miter m clock (seen ++ [F[i].born])) rfl hB (.mapIter (some Bm.g) clock (seen.toArray.push F[i].born) clock)
      ⟨⟨Bm, hBm, by rw [wh_set_eq hg1]; simp⟩, k2⟩ (fun j v hj => (k2 j v hj).elim)
    refine ⟨(leftOf seen es (ms.map (·.born)))[i], List.getElem_mem _, .tuple #[.bool true, F[i].key, F[i].val], _, ?_, tup3 (.c (.bool true)) (.c e1) e2, by rw [e3]; exact r1, by rw [e3]; exact hI1.2.trans r2⟩
    have hcand : ((if F.toArray.isEmpty = true then #[none] else #[]) ++ (F.toArray ++ #[]).map some : Array (Option MapEntry)) = (F.map some).toArray := by
      rw [hFe]; simp
    rw [next_run (i := i) (w1 := w1) hgo hgm hchk hfil ho hn hcand (by simpa using hrun)]
    have : (F.map some).toArray[i]? = some (some F[i]) := by simp [hi]
    rw [this]
    simp only [hset, Result.andThen_ok]
where blt_lt' {a b : Nat} (h : Nat.blt a b = true) : a < b := by simpa [Nat.blt_eq] using h
theorem tup2 {G : Gh} {a b : AV} {x y : Value} (ha : RelA G a x) (hb : RelA G b y) : RelA G (.tup [a, b]) (.tuple #[x, y]) :=
  .tup (vs := [x, y]) rfl (fun i p q hp hq => by
    match i with
    | 0 => simp at hp hq; subst hp; subst hq; exact ha
    | 1 => simp at hp hq; subst hp; subst hq; exact hb
    | i + 2 => simp at hp)
theorem assert_sound {P : Program} {G : Gh} {x v : AV} {T xT : TypeId} {ok : Bool} {vx : Value} (he : aAssert P x T ok = some v) (hx : RelA G x vx) (w : World) :
    ∃ y, Sem.run P (Instr.typeAssert vx xT T ok) w = .ok y w ∧ RelA G v y := by
  unfold aAssert at he
  split at he
  · cases he
  · rename_i d z hni hu hz
    obtain ⟨zv, z1, z2⟩ := run_zeroValue P hz G.F w
    have hnotI : ∀ ms, d ≠ .interface ms := fun ms e => hni ms (by rw [e])
    split at he
    · rename_i t iv
      cases relA_c hx with
      | iface _ _ iv' hiv =>
        split at he
        · rename_i e
          subst e
          cases ok with
          | true =>
            cases he
            refine ⟨_, ?_, tup2 (.c hiv) (.c (.bool true))⟩
            cases d <;> first | exact absurd rfl (hnotI _) | simp [Instr.typeAssert, run_underlying P hu]
          | false =>
            cases he
            refine ⟨_, ?_, .c hiv⟩
            cases d <;> first | exact absurd rfl (hnotI _) | simp [Instr.typeAssert, run_underlying P hu]
        · rename_i e
          cases ok with
          | true =>
            cases he
            refine ⟨_, ?_, tup2 (.c z2) (.c (.bool false))⟩
            cases d <;> first | exact absurd rfl (hnotI _) | simp [Instr.typeAssert, run_underlying P hu, e, z1]
          | false => cases he
    · rename_i t iv
      cases hx with
      | iface hiv =>
        split at he
        · rename_i e
          subst e
          cases ok with
          | true =>
            cases he
            refine ⟨_, ?_, tup2 hiv (.c (.bool true))⟩
            cases d <;> first | exact absurd rfl (hnotI _) | simp [Instr.typeAssert, run_underlying P hu]
          | false =>
            cases he
            refine ⟨_, ?_, hiv⟩
            cases d <;> first | exact absurd rfl (hnotI _) | simp [Instr.typeAssert, run_underlying P hu]
        · rename_i e
          cases ok with
          | true =>
            cases he
            refine ⟨_, ?_, tup2 (.c z2) (.c (.bool false))⟩
            cases d <;> first | exact absurd rfl (hnotI _) | simp [Instr.typeAssert, run_underlying P hu, e, z1]
          | false => cases he
    · cases relA_c hx
      cases ok with
      | true =>
        cases he
        refine ⟨_, ?_, tup2 (.c z2) (.c (.bool false))⟩
        cases d <;> first | exact absurd rfl (hnotI _) | simp [Instr.typeAssert, run_underlying P hu, z1]
      | false => cases he
    · cases he
  · cases he
theorem mkIface_rel {G : Gh} {t : TypeId} {v : AV} {x : Value} (h : RelA G v x) : RelA G (mkIface t v) (.iface t x) := by
  unfold mkIface
  split
  · exact .c (.iface _ _ _ (relA_c h))
  · exact .iface h
theorem len_sound {P : Program} {G : Gh} {S : St} {w : World} (h : Inv G S w) {t ty : TypeId} {x : AV} {vx : Value} {n : Nat} (he : lenA P t S x = some n) (hx : RelA G x vx) :
    Sem.run P (Builtin.len_ #[t] ty #[vx]) w = .ok (.int .i64 n) w := by
  unfold lenA at he
  split at he
  · rename_i hu
    split at he
    · cases he
      cases relA_c hx with
      | str bs =>
        have hsz : bs.size = bs.data.toList.length := by rw [Array.length_toList]; rfl
        rw [← hsz]
        simp [Builtin.len_, run_underlying P hu, goInt]
    · cases he
  · rename_i k e hu
    cases he
    simp [Builtin.len_, run_underlying P hu, goInt]
  · rename_i e hu
    have : ∃ a c, vx = .slice a n c := by
      split at he
      · cases he; cases relA_c hx; exact ⟨_, _, rfl⟩
      · cases he
        cases relA_c hx with
        | sl0 => exact ⟨_, _, rfl⟩
        | slN => exact ⟨_, _, rfl⟩
        | sl => exact ⟨_, _, rfl⟩
      · cases he; cases hx; exact ⟨_, _, rfl⟩
      · cases he; cases hx; exact ⟨_, _, rfl⟩
      · cases he
    obtain ⟨a, c, rfl⟩ := this
    simp [Builtin.len_, run_underlying P hu, goInt]
  · rename_i k e hu
    split at he
    · cases he; cases relA_c hx
      simp [Builtin.len_, run_underlying P hu, goInt]
    · split at he
      · rename_i b es born clock hb
        cases he
        cases hx with
        | @map _ B hB =>
          obtain ⟨B', hB', ms, k1, k2, k3, k4, k5⟩ := h.obs _ _ hb rfl
          rw [hB] at hB'
          cases hB'
          have hgo : Sem.run P (getObj B.g) w = .ok (.map ms.toArray clock) w := by simp [getObj, Sem.run, k1]
          simp [Builtin.len_, run_underlying P hu, hgo, goInt, k2]
      · cases he
    · cases he
  · cases he
end Go.Abs
