/-
  The abstract machine, part B: what one operation does, as a function.
-/
import Derived.Test.YtnnbhfoimaodhaaAbsA
namespace Go.Abs
set_option linter.unusedVariables false

inductive Res where
  | val (v : AV) (cs : List Cmd)
  | skip (cs : List Cmd)
  | call (f : FuncId) (args : List AV)
  | pan (v : AV)
  /-- any one of these -/
  | any (l : List (AV × List Cmd))

/-! ### Equality of pure values, by their type -/
def fpart (P : Program) (T : TypeId) (cs : List FV) (off : Nat) : Option FV :=
  match isAggT P T, szT P T with
  | some true, some n => bif Nat.ble (off + n) cs.length then some (.agg ((cs.drop off).take n)) else none
  | some false, some _ => cs[off]?
  | _, _ => none

def feqFields (P : Program) (eq : TypeId → FV → FV → Option Bool) (xs ys : List FV) : List Field → Option Bool
  | [] => some true
  | f :: r =>
    if f.name = "_" then feqFields P eq xs ys r else
    match fpart P f.type xs f.offset, fpart P f.type ys f.offset with
    | some x, some y =>
      match eq f.type x y with
      | some true => feqFields P eq xs ys r
      | some false => some false
      | none => none
    | _, _ => none

def feq (P : Program) : Nat → TypeId → FV → FV → Option Bool
  | 0, _, _, _ => none
  | d + 1, t, x, y =>
    match P.underlying t with
    | some .bool =>
      match x, y with
      | .bool a, .bool b => some (a == b)
      | _, _ => none
    | some (.int _) =>
      match x, y with
      | .int k a, .int k' b => if k = k' then some (a == b) else none
      | _, _ => none
    | some .string =>
      match x, y with
      | .str a, .str b => some (a == b)
      | _, _ => none
    | some (.struct fs) =>
      match x, y with
      | .agg xs, .agg ys => if P.stoodInHeld t = true then none else feqFields P (feq P d) xs ys fs.toList
      | _, _ => none
    | _ => none

/-- A reference of the state. -/
def AV.isRef : AV → Bool
  | .ref _ _ | .fref _ _ | .gref _ => true
  | _ => false

def AV.isRow : AV → Bool
  | .sl _ _ _ _ _ | .fz _ _ | .c (.sl _) => true
  | _ => false

def aEq (P : Program) (t : TypeId) (x y : AV) : Option Bool :=
  match x, y with
  | .c (.agg a), .c (.agg b) => if P.eqGuardType P.depth t = true then none else feq P Op.maxDepth t (.agg a) (.agg b)
  | .c (.bool a), .c (.bool b) => feq P Op.maxDepth t (.bool a) (.bool b)
  | .c .nilp, .c .nilp => (match P.underlying t with | some (.pointer _) => some true | _ => none)
  | .ref b o, .c .nilp | .c .nilp, .ref b o => (match P.underlying t with | some (.pointer _) => some false | _ => none)
  | .c .nils, .c .nils => (match P.underlying t with | some (.slice _) => some true | _ => none)
  | .c .nilm, .c .nilm => (match P.underlying t with | some (.map _ _) => some true | _ => none)
  | .map _, .c .nilm | .c .nilm, .map _ => (match P.underlying t with | some (.map _ _) => some false | _ => none)
  | .c .nili, .c .nili => (match P.underlying t with | some (.interface ms) => if ms.isEmpty = true then some true else none | _ => none)
  | .c (.iface _ _), .c .nili | .iface _ _, .c .nili => (match P.underlying t with | some (.interface _) => some false | _ => none)
  | .c .nili, .c (.iface _ _) | .c .nili, .iface _ _ => (match P.underlying t with | some (.interface _) => some false | _ => none)
  | x, .c .nils => if x.isRow = true then (match P.underlying t with | some (.slice _) => some false | _ => none) else none
  | _, _ => none

def aInt (op : BinOp) (k : IntKind) (a : Int) (k' : IntKind) (b : Int) : Option FV :=
  match op with
  | .shl => if b < 0 then none else some (.int k (k.wrap (a * 2 ^ (min b.toNat k.bits))))
  | .shr => if b < 0 then none else some (.int k (a.fdiv (2 ^ (min b.toNat k.bits))))
  | op =>
    if k ≠ k' then none else
    match op with
    | .add => some (.int k (k.wrap (a + b)))
    | .sub => some (.int k (k.wrap (a - b)))
    | .mul => some (.int k (k.wrap (a * b)))
    | .quo => if b = 0 then none else some (.int k (k.wrap (a.tdiv b)))
    | .rem => if b = 0 then none else some (.int k (a.tmod b))
    | .and => some (.int k (k.wrap (BitVec.ofInt k.bits a &&& BitVec.ofInt k.bits b).toNat))
    | .or => some (.int k (k.wrap (BitVec.ofInt k.bits a ||| BitVec.ofInt k.bits b).toNat))
    | .xor => some (.int k (k.wrap (BitVec.ofInt k.bits a ^^^ BitVec.ofInt k.bits b).toNat))
    | .andNot => some (.int k (k.wrap (BitVec.ofInt k.bits a &&& ~~~(BitVec.ofInt k.bits b)).toNat))
    | .eql => some (.bool (a == b))
    | .neq => some (.bool (a != b))
    | .lss => some (.bool (decide (a < b)))
    | .leq => some (.bool (decide (a ≤ b)))
    | .gtr => some (.bool (decide (a > b)))
    | .geq => some (.bool (decide (a ≥ b)))
    | _ => none

def aStr (op : BinOp) (a b : List UInt8) : Option FV :=
  match op with
  | .add => if a.length + b.length ≤ maxLenA then some (.str (a ++ b)) else none
  | .eql => some (.bool (a == b))
  | .neq => some (.bool (a != b))
  | .lss => some (.bool (Op.bytesLess a b))
  | .leq => some (.bool (Op.bytesLess a b || a == b))
  | .gtr => some (.bool !(Op.bytesLess a b || a == b))
  | .geq => some (.bool !(Op.bytesLess a b))
  | _ => none

def aBin (P : Program) (op : BinOp) (t : TypeId) (x y : AV) : Option AV :=
  match x, y with
  | .c (.int k a), .c (.int k' b) => (aInt op k a k' b).map .c
  | .c (.str a), .c (.str b) => (aStr op a b).map .c
  | x, y =>
    match op with
    | .eql => (aEq P t x y).map fun b => .c (.bool b)
    | .neq => (aEq P t x y).map fun b => .c (.bool !b)
    | _ => none

def aUn (op : UnOp) (x : AV) : Option AV :=
  match op, x with
  | .not, .c (.bool b) => some (.c (.bool !b))
  | .neg, .c (.int k n) => some (.c (.int k (k.wrap (0 - n))))
  | _, _ => none

/-! ### Rows -/
def flat : List FV → List AV
  | [] => []
  | x :: r => x.cells.map .c ++ flat r

def allSize (s : Nat) : List FV → Bool
  | [] => true
  | x :: r => Nat.beq x.cells.length s && allSize s r

/-- The cells of a slice's elements, and how many elements. -/
def rowCells (s : Nat) (S : St) : AV → Option (List AV × Nat)
  | .c .nils => some ([], 0)
  | .c (.sl xs) => if allSize s xs = true then some (flat xs, xs.length) else none
  | .fz _ xs => if allSize s xs = true then some (flat xs, xs.length) else none
  | .sl b off len s' _ =>
    match S.get b with
    | some (.blk cs _ _) => if s' = s ∧ off + len * s ≤ cs.length then some ((cs.drop off).take (len * s), len) else none
    | _ => none
  | _ => none

def bytesOf : List AV → Option (List UInt8)
  | [] => some []
  | .c (.int .u8 n) :: r =>
    match bytesOf r with
    | some l => some (UInt8.ofNat n.toNat :: l)
    | none => none
  | _ => none

def byteCells (s : List UInt8) : List AV := s.map fun b => .c (.int .u8 b.toNat)

def lenA (P : Program) (t : TypeId) (S : St) (x : AV) : Option Nat :=
  match P.underlying t with
  | some .string => (match x with | .c (.str s) => some s.length | _ => none)
  | some (.array n _) => some n
  | some (.slice _) =>
    match x with
    | .c .nils => some 0
    | .c (.sl xs) => some xs.length
    | .fz _ xs => some xs.length
    | .sl _ _ len _ _ => some len
    | _ => none
  | some (.map _ _) =>
    match x with
    | .c .nilm => some 0
    | .map b => (match S.get b with | some (.map es _ _) => some es.length | _ => none)
    | _ => none
  | _ => none

/-- append. -/
def aAppend (P : Program) (t t' : TypeId) (x y : AV) (S : St) : Option (AV × List Cmd) :=
  match P.underlying t with
  | some (.slice e) =>
    match P.info? e, (match P.underlying t' with | some (.int _) => none | some .string => some true | some (.slice _) => some false | _ => none) with
    | some i, some str =>
      match (bif str then (match y with | .c (.str l) => some (byteCells l, l.length) | _ => none) else rowCells i.size S y) with
      | some (new, k) =>
        if i.bytes = 0 ∨ i.size = 0 ∨ (i.zero.map (·.cells.size)) ≠ some i.size ∨ k * i.size ≠ new.length then none else
        match x with
        | .c .nils =>
          if k = 0 then some (.c .nils, []) else
          if k * i.bytes ≤ maxLenA then some (.sl S.next 0 k i.size false, [.new (.blk new 0 e)]) else none
        | .fz tag xs =>
          if k = 0 then some (.fz tag xs, []) else
          if allSize i.size xs = true ∧ (xs.length + k) * i.bytes ≤ maxLenA ∧ S.spare.contains tag = true ∧ 0 < xs.length then
            some (.sl S.next 0 (xs.length + k) i.size false,
              [.take tag, .new (.blk (flat xs ++ new) (xs.length * i.size) e)])
          else none
        | .sl b off len s full =>
          if k = 0 then some (.sl b off len s full, []) else
          match S.get b with
          | some (.blk cs ro T) =>
            if s = i.size ∧ (len + k) * i.bytes ≤ maxLenA ∧ off + len * s ≤ cs.length then
              if full = true then some (.sl S.next 0 (len + k) s false, [.new (.blk ((cs.drop off).take (len * s) ++ new) 0 e)])
              else if ro ≤ off + len * s then
                if off + (len + k) * s ≤ cs.length then
                  some (.sl b off (len + k) s false, [.put b (.blk (setRange cs (off + len * s) new) ro T)])
                else some (.sl S.next 0 (len + k) s false, [.put b .dead, .new (.blk ((cs.drop off).take (len * s) ++ new) (ro - off) e)])
              else none
            else none
          | _ => none
        | _ => none
      | none => none
    | _, _ => none
  | _ => none

/-- copy. -/
def aCopy (P : Program) (t t' : TypeId) (x y : AV) (S : St) : Option (AV × List Cmd) :=
  match P.underlying t with
  | some (.slice e) =>
    match szT P e, P.underlying t' with
    | some s, some u =>
      match (match u with | .string => (match y with | .c (.str l) => some (byteCells l, l.length) | _ => none) | _ => rowCells s S y) with
      | some (new, k) =>
        match x with
        | .sl b off len s' _ =>
          match S.get b with
          | some (.blk cs ro T) =>
            let n := min k len
            if s' = s ∧ off + len * s ≤ cs.length ∧ ro ≤ off ∧ k * s = new.length then
              some (.c (.int .i64 n), [.put b (.blk (setRange cs off (new.take (n * s))) ro T)])
            else none
          | _ => none
        | _ => none
      | none => none
    | _, _ => none
  | _ => none

def boundA (dflt : Nat) : Option AV → Option Nat
  | none => some dflt
  | some (.c (.int _ i)) => if 0 ≤ i then some i.toNat else none
  | _ => none

def aSlice (P : Program) (t : TypeId) (x : AV) (lo hi mx : Option AV) (S : St) : Option AV :=
  match P.underlying t with
  | some .string =>
    match x, mx with
    | .c (.str s), none =>
      match boundA 0 lo, boundA s.length hi with
      | some l, some h => if l ≤ h ∧ h ≤ s.length then some (.c (.str ((s.take h).drop l))) else none
      | _, _ => none
    | _, _ => none
  | some (.slice e) =>
    match szT P e with
    | some s =>
      match x with
      | .c .nils =>
        match boundA 0 lo, boundA 0 hi, mx with
        | some 0, some 0, none => some (.c .nils)
        | _, _, _ => none
      | .c (.sl xs) =>
        match boundA 0 lo, boundA xs.length hi, mx with
        | some l, some h, none => if l ≤ h ∧ h ≤ xs.length ∧ allSize s xs = true then some (.c (.sl ((xs.take h).drop l))) else none
        | _, _, _ => none
      | .fz tag xs =>
        match boundA 0 lo, boundA xs.length hi, mx with
        | some l, some h, none => if l ≤ h ∧ h ≤ xs.length ∧ allSize s xs = true then some (.c (.sl ((xs.take h).drop l))) else none
        | _, _, _ => none
      | .sl b off len s' full =>
        match S.get b with
        | some (.blk cs _ _) =>
          match boundA 0 lo, boundA len hi with
          | some l, some h =>
            if s' = s ∧ s ≠ 0 ∧ l ≤ h ∧ (full = true → h ≤ len) ∧ (full = false → off + h * s ≤ cs.length) then
              match mx with
              | none =>
                if full = true ∧ h ≠ len then
                  if cs.length ≤ off + len * s then some (.sl b (off + l * s) (h - l) s false) else none
                else some (.sl b (off + l * s) (h - l) s full)
              | some (.c (.int _ m)) => if m = (h : Int) ∧ hi.isSome = true then some (.sl b (off + l * s) (h - l) s true) else none
              | _ => none
            else none
          | _, _ => none
        | _ => none
      | _ => none
    | none => none
  | _ => none

def aIndexAddr (P : Program) (t : TypeId) (x : AV) (i : AV) : Option AV :=
  match i with
  | .c (.int _ i) =>
    if i < 0 then none else
    match P.underlying t with
    | some (.slice e) =>
      match szT P e with
      | some s =>
        match x with
        | .c (.sl xs) => if i.toNat < xs.length ∧ allSize s xs = true then (xs[i.toNat]?).map fun e => .fref e 0 else none
        | .fz _ xs => if i.toNat < xs.length ∧ allSize s xs = true then (xs[i.toNat]?).map fun e => .fref e 0 else none
        | .sl b off len s' _ => if s' = s ∧ i.toNat < len then some (.ref b (off + i.toNat * s)) else none
        | _ => none
      | none => none
    | some (.array n e) =>
      match szT P e with
      | some s =>
        if i.toNat < n then
          match x with
          | .ref b off => some (.ref b (off + i.toNat * s))
          | .fref e off => some (.fref e (off + i.toNat * s))
          | _ => none
        else none
      | none => none
    | _ => none
  | _ => none

def aIndex (P : Program) (t : TypeId) (x : AV) (i : AV) : Option AV :=
  match i with
  | .c (.int _ i) =>
    if i < 0 then none else
    match P.underlying t with
    | some .string =>
      match x with
      | .c (.str s) => (s[i.toNat]?).map fun b => .c (.int .u8 b.toNat)
      | _ => none
    | some (.array n e) =>
      match szT P e, x with
      | some s, .c (.agg cs) => if i.toNat < n then partOf P e (cs.map .c) (i.toNat * s) else none
      | some s, .agg cs => if i.toNat < n then partOf P e cs (i.toNat * s) else none
      | _, _ => none
    | _ => none
  | _ => none

/-! ### Memory -/
def aLoad (P : Program) (t : TypeId) (a : AV) (S : St) : Option AV :=
  match a with
  | .ref b off =>
    match S.get b with
    | some (.blk cs _ _) => partOf P t cs off
    | _ => none
  | .fref e off => partOf P t (e.cells.map .c) off
  | _ => none

def AV.scalar : AV → Bool
  | .c (.agg _) | .agg _ | .tup _ | .undef => false
  | _ => true

/-- Does a value hold a mutable row of the state? (what a store of it may make an older block lead to) -/
def AV.loose : AV → Bool
  | .sl _ _ _ _ _ => true
  | .agg cs => cs.any fun | .sl _ _ _ _ _ => true | _ => false
  | _ => false

def aStore (P : Program) (t : TypeId) (a : AV) (v : AV) (S : St) : Option (List Cmd) :=
  match a with
  | .ref b off =>
    match S.get b, szT P t with
    | some (.blk cs ro T), some n =>
      if v.cells.length = n ∧ v.cells.all AV.scalar = true ∧ off + n ≤ cs.length ∧ ro ≤ off then
        some [.put b (.blk (setRange cs off v.cells) ro T)]
      else none
    | _, _ => none
  | _ => none

def aNew (P : Program) (t : TypeId) (v : AV) (S : St) : Option (AV × List Cmd) :=
  if v.cells.all AV.scalar = true then some (.ref S.next 0, [.new (.blk v.cells 0 t)]) else none

/-! ### Struct and array values -/
def placeA (P : Program) (t : TypeId) (i : Nat) : Option (Nat × Nat) :=
  match P.underlying t with
  | some (.struct fs) =>
    match fs[i]? with
    | some f =>
      match szT P f.type with
      | some n => some (f.offset, n)
      | none => none
    | none => none
  | some (.array _ e) =>
    match szT P e with
    | some n => some (i * n, n)
    | none => none
  | _ => none

def placesOk (P : Program) (t : TypeId) : Bool :=
  match P.underlying t with
  | some (.struct fs) => fs.toList.all fun f => (szT P f.type).isSome
  | some (.array _ e) => (szT P e).isSome
  | _ => false

def fillA (place : Nat → Option (Nat × Nat)) : List AV → List (Nat × AV) → Option (List AV)
  | cells, [] => some cells
  | cells, (i, v) :: r =>
    match place i with
    | some (off, n) =>
      if v.cells.length = n ∧ off + n ≤ cells.length ∧ v.cells.all AV.scalar = true then fillA place (setRange cells off v.cells) r else none
    | none => none

def partsA (env : Env) : List (Nat × Operand) → Option (List (Nat × AV))
  | [] => some []
  | (i, x) :: r =>
    match opnd env x, partsA env r with
    | some v, some l => some ((i, v) :: l)
    | _, _ => none

def repCells : Nat → List AV → List AV
  | 0, _ => []
  | n + 1, z => z ++ repCells n z

/-! ### Maps -/
def keyEq : FV → FV → Option Bool
  | .int k a, .int k' b => if k = k' then some (a == b) else none
  | .str a, .str b => some (a == b)
  | _, _ => none

def findA (k : FV) : List (FV × AV) → Option (Option AV)
  | [] => some none
  | (k', v) :: r =>
    match keyEq k k' with
    | some true => some (some v)
    | some false => findA k r
    | none => none

def updA (k : FV) (v : AV) : List (FV × AV) → Option (List (FV × AV))
  | [] => none
  | (k', u) :: r =>
    match keyEq k k' with
    | some true => some ((k, v) :: r)
    | some false =>
      match updA k v r with
      | some l => some ((k', u) :: l)
      | none => none
    | none => none

def mapT (P : Program) (t : TypeId) : Option (TypeId × TypeId) :=
  match P.underlying t with
  | some (.map k e) =>
    match P.underlying k with
    | some (.int _) | some .string => some (k, e)
    | _ => none
  | _ => none

def keyFits (P : Program) (t : TypeId) (k : FV) : Bool :=
  match P.underlying t with
  | some (.int _) => (match k with | .int _ _ => true | _ => false)
  | some .string => (match k with | .str _ => true | _ => false)
  | _ => false

def aLookup (P : Program) (t : TypeId) (m k : AV) (ok : Bool) (S : St) : Option AV :=
  match mapT P t, k with
  | some (kt, e), .c k =>
    match keyFits P kt k, zeroT P e with
    | true, some z =>
      match (match m with | .c .nilm => some [] | .map b => (match S.get b with | some (.map es _ _) => some es | _ => none) | _ => none) with
      | some es =>
        match findA k es with
        | some (some v) => some (bif ok then .tup [v, .c (.bool true)] else v)
        | some none => some (bif ok then .tup [.c z, .c (.bool false)] else .c z)
        | none => none
      | none => none
    | _, _ => none
  | _, _ => none

def aMapUpdate (P : Program) (t : TypeId) (m k v : AV) (S : St) : Option (List Cmd) :=
  match mapT P t, m, k with
  | some (kt, _), .map b, .c k =>
    match S.get b with
    | some (.map es born clock) =>
      match keyFits P kt k, findA k es with
      | true, some none => some [.put b (.map (es ++ [(k, v)]) (born ++ [clock]) (clock + 1))]
      | true, some (some _) =>
        match updA k v es with
        | some l => some [.put b (.map l born clock)]
        | none => none
      | _, _ => none
    | _ => none
  | _, _, _ => none

/-- The entries that a walk has not met. -/
def leftOf (seen : List Nat) : List (FV × AV) → List Nat → List (FV × AV × Nat)
  | (k, v) :: es, n :: born => bif seen.contains n then leftOf seen es born else (k, v, n) :: leftOf seen es born
  | _, _ => []

def nextRes (b m clock : Nat) (seen : List Nat) : List (FV × AV × Nat) → Res
  | [] => .val (.tup [.c (.bool false)]) []
  | l => .any (l.map fun p => (.tup [.c (.bool true), .c p.1, p.2.1], [.put b (.miter m clock (seen ++ [p.2.2]))]))

def aNextIn (b m clock : Nat) (seen : List Nat) : Option Ob → Option Res
  | some (.map es born ck) => if ck = clock ∧ born.all (fun n => Nat.blt n clock) = true then some (nextRes b m clock seen (leftOf seen es born)) else none
  | _ => none

def aNextMap (b : Nat) (S : St) : Option Ob → Option Res
  | some .niter => some (.val (.tup [.c (.bool false)]) [])
  | some (.miter m clock seen) => aNextIn b m clock seen (S.get m)
  | _ => none

def entOf (n : Nat) : List (FV × AV) → List Nat → Option (FV × AV)
  | p :: es, k :: born => bif Nat.beq k n then some p else entOf n es born
  | _, _ => none

def aEntryIn (clock : Nat) (n : Option Nat) : Option Ob → Option Res
  | some (.map es born ck) =>
    match n with
    | some n => if ck = clock then (entOf n es born).map fun p => .val (.tup [.c p.1, p.2]) [] else none
    | none => none
  | _ => none

def aEntry (S : St) : Option Ob → Option Res
  | some (.miter m clock seen) => aEntryIn clock seen.getLast? (S.get m)
  | _ => none

/-! ### Interfaces -/
def mkIface (t : TypeId) : AV → AV
  | .c v => .c (.iface t v)
  | v => .iface t v

def aAssert (P : Program) (x : AV) (T : TypeId) (ok : Bool) : Option AV :=
  match P.underlying T, zeroT P T with
  | some (.interface _), _ => none
  | some _, some z =>
    match x with
    | .c (.iface t v) => if t = T then some (bif ok then .tup [.c v, .c (.bool true)] else .c v) else (bif ok then some (.tup [.c z, .c (.bool false)]) else none)
    | .iface t v => if t = T then some (bif ok then .tup [v, .c (.bool true)] else v) else (bif ok then some (.tup [.c z, .c (.bool false)]) else none)
    | .c .nili => bif ok then some (.tup [.c z, .c (.bool false)]) else none
    | _ => none
  | _, _ => none

/-! ### Conversions -/
def aConv (P : Program) (src dst : TypeId) (x : AV) (S : St) : Option (AV × List Cmd) :=
  match P.underlying src, P.underlying dst with
  | some _, some (.int k) =>
    match x with
    | .c (.int _ n) => some (.c (.int k (k.wrap n)), [])
    | _ => none
  | some u, some .string =>
    match x with
    | .c (.int _ n) => some (.c (.str (Utf8.encode n).data.toList), [])
    | .c (.str s) => some (.c (.str s), [])
    | x =>
      match u with
      | .slice e =>
        match P.underlying e with
        | some (.int .u8) =>
          match rowCells 1 S x with
          | some (cs, _) => (bytesOf cs).map fun l => (.c (.str l), [])
          | none => none
        | _ => none
      | _ => none
  | some _, some (.slice e) =>
    match x, P.underlying e, szT P e with
    | .c (.str s), some (.int .u8), some 1 => if s.length ≤ maxLenA then some (.sl S.next 0 s.length 1 false, [.new (.blk (byteCells s) 0 e)]) else none
    | _, _, _ => none
  | _, _ => none

/-- callee, with what goes before and behind the arguments -/
def calleeA : AV → Option (FuncId × List AV × List AV)
  | .c (.fn f) => some (f, [], [])
  | .clo f first caps => some (f, first, caps)
  | _ => none

def mkClo (f : FuncId) (first caps : List AV) : AV :=
  match first, caps with
  | [], [] => .c (.fn f)
  | _, _ => .clo f first caps

def optA (env : Env) : Option Operand → Option (Option AV)
  | none => some none
  | some x =>
    match opnd env x with
    | some v => some (some v)
    | none => none

def aBuiltin (P : Program) (b : Builtin) (ts : List TypeId) (args : List AV) (S : St) : Option (AV × List Cmd) :=
  match b, ts, args with
  | .len, [t], [x] => (lenA P t S x).map fun (n : Nat) => (AV.c (.int .i64 (n : Int)), [])
  | .append, [t, t'], [x, y] => aAppend P t t' x y S
  | .copy, [t, t'], [x, y] => aCopy P t t' x y S
  | .min, _, [.c (.int k a), .c (.int k' b)] => if k = k' then some (.c (.int k (min a b)), []) else none
  | .max, _, [.c (.int k a), .c (.int k' b)] => if k = k' then some (.c (.int k (max a b)), []) else none
  | _, _, _ => none

def evMove (P : Program) (x : Operand) (env : Env) (S : St) : Option Res :=
  (opnd env x).map fun v => .val v []

def evPick (P : Program) (c : Operand) (a : Operand) (b : Operand) (env : Env) (S : St) : Option Res :=
  match opnd env c with
  | some (.c (.bool t)) => (opnd env (bif t then a else b)).map fun v => .val v []
  | _ => none

def evAlloc (P : Program) (t : TypeId) (env : Env) (S : St) : Option Res :=
  match zeroT P t with
  | some z => (aNew P t (.c z) S).map fun r => .val r.1 r.2
  | none => none

def evBox (P : Program) (t : TypeId) (x : Operand) (env : Env) (S : St) : Option Res :=
  match opnd env x with
  | some v => (aNew P t v S).map fun r => .val r.1 r.2
  | none => none

def evBuild (P : Program) (t : TypeId) (ps : Array (Nat × Operand)) (env : Env) (S : St) : Option Res :=
  match zeroT P t, partsA env ps.toList with
  | some z, some l => if placesOk P t = true then (fillA (placeA P t) (z.cells.map .c) l).map fun cs => .val (mkAgg cs) [] else none
  | _, _ => none

def evBuildSlice (P : Program) (t : TypeId) (n : Nat) (ps : Array (Nat × Operand)) (env : Env) (S : St) : Option Res :=
  match elemT P t with
  | some e =>
    match szT P e, zeroT P e, partsA env ps.toList with
    | some s, some z, some l =>
      if n * s ≤ 16777216 ∧ 0 < s ∧ z.cells.length = s then
        match fillA (fun i => some (i * s, s)) (repCells n (z.cells.map .c)) l with
        | some cs => if cs.all AV.scalar = true then some (.val (.sl S.next 0 n s true) [.new (.blk cs 0 e)]) else none
        | none => none
      else none
    | _, _, _ => none
  | none => none

def evLoad (P : Program) (t : TypeId) (x : Operand) (env : Env) (S : St) : Option Res :=
  match opnd env x with
  | some a => (aLoad P t a S).map fun v => .val v []
  | none => none

def evStore (P : Program) (t : TypeId) (x : Operand) (y : Operand) (env : Env) (S : St) : Option Res :=
  match opnd env x, opnd env y with
  | some a, some v => (aStore P t a v S).map fun cs => .skip cs
  | _, _ => none

def evNilCheck (P : Program) (x : Operand) (env : Env) (S : St) : Option Res :=
  match opnd env x with
  | some a => if a.isRef = true then some (.val a []) else none
  | none => none

def evBinOp (P : Program) (op : BinOp) (t : TypeId) (x : Operand) (y : Operand) (env : Env) (S : St) : Option Res :=
  match opnd env x, opnd env y with
  | some a, some b => (aBin P op t a b).map fun v => .val v []
  | _, _ => none

def evUnOp (P : Program) (op : UnOp) (x : Operand) (env : Env) (S : St) : Option Res :=
  match opnd env x with
  | some a => (aUn op a).map fun v => .val v []
  | none => none

def evConvert (P : Program) (src : TypeId) (dst : TypeId) (x : Operand) (env : Env) (S : St) : Option Res :=
  match opnd env x with
  | some a => (aConv P src dst a S).map fun r => .val r.1 r.2
  | none => none

def evMakeInterface (P : Program) (t : TypeId) (x : Operand) (env : Env) (S : St) : Option Res :=
  match opnd env x, P.underlying t with
  | some _, some (.interface _) => none
  | some a, some _ => some (.val (mkIface t a) [])
  | _, _ => none

def evMakeFunc (P : Program) (f : FuncId) (first : Array Operand) (caps : Array Operand) (env : Env) (S : St) : Option Res :=
  match opnds env first.toList, opnds env caps.toList with
  | some l, some m => some (.val (mkClo f l m) [])
  | _, _ => none

def evMakeMap (P : Program)  (env : Env) (S : St) : Option Res :=
  some (.val (.map S.next) [.new (.map [] [] 0)])

def evMakeSlice (P : Program) (t : TypeId) (n : Operand) (m : Operand) (env : Env) (S : St) : Option Res :=
  match opnd env n, opnd env m, elemT P t with
  | some (.c (.int .i64 a)), some (.c (.int .i64 b)), some e =>
    match P.info? e, zeroT P e with
    | some i, some z =>
      if 0 ≤ a ∧ a ≤ b ∧ b.toNat * i.bytes ≤ maxLenA ∧ 0 < i.bytes ∧ 0 < i.size ∧ z.cells.length = i.size then
        some (.val (.sl S.next 0 a.toNat i.size (decide (a = b))) [.new (.blk (repCells b.toNat (z.cells.map .c)) 0 e)])
      else none
    | _, _ => none
  | _, _, _ => none

def evSlice (P : Program) (t : TypeId) (x : Operand) (lo : Option Operand) (hi : Option Operand) (mx : Option Operand) (env : Env) (S : St) : Option Res :=
  match opnd env x, optA env lo, optA env hi, optA env mx with
  | some a, some l, some h, some m => (aSlice P t a l h m S).map fun v => .val v []
  | _, _, _, _ => none

def evFieldAddr (P : Program) (t : TypeId) (x : Operand) (f : Nat) (env : Env) (S : St) : Option Res :=
  match opnd env x, fieldT P t f with
  | some (.ref b off), some (T, d) => (match szT P T with | some (_ + 1) => some (.val (.ref b (off + d)) []) | _ => none)
  | some (.fref e off), some (T, d) => (match szT P T with | some (_ + 1) => some (.val (.fref e (off + d)) []) | _ => none)
  | _, _ => none

def evField (P : Program) (t : TypeId) (x : Operand) (f : Nat) (env : Env) (S : St) : Option Res :=
  match opnd env x, fieldT P t f with
  | some (.c (.agg cs)), some (T, d) => (partOf P T (cs.map .c) d).map fun v => .val v []
  | some (.agg cs), some (T, d) => (partOf P T cs d).map fun v => .val v []
  | _, _ => none

def evIndexAddr (P : Program) (t : TypeId) (x : Operand) (i : Operand) (env : Env) (S : St) : Option Res :=
  match opnd env x, opnd env i with
  | some a, some j => (aIndexAddr P t a j).map fun v => .val v []
  | _, _ => none

def evIndex (P : Program) (t : TypeId) (x : Operand) (i : Operand) (env : Env) (S : St) : Option Res :=
  match opnd env x, opnd env i with
  | some a, some j => (aIndex P t a j).map fun v => .val v []
  | _, _ => none

def evLookup (P : Program) (t : TypeId) (m : Operand) (k : Operand) (ok : Bool) (env : Env) (S : St) : Option Res :=
  match opnd env m, opnd env k with
  | some a, some j => (aLookup P t a j ok S).map fun v => .val v []
  | _, _ => none

def evMapUpdate (P : Program) (t : TypeId) (m : Operand) (k : Operand) (v : Operand) (env : Env) (S : St) : Option Res :=
  match opnd env m, opnd env k, opnd env v with
  | some a, some j, some x => (aMapUpdate P t a j x S).map fun cs => .skip cs
  | _, _, _ => none

def evRange (P : Program) (t : TypeId) (x : Operand) (env : Env) (S : St) : Option Res :=
  match P.underlying t, opnd env x with
  | some .string, some (.c (.str s)) => some (.val (.iter S.next) [.new (.siter s 0)])
  | some (.map _ _), some (.c .nilm) => some (.val (.iter S.next) [.new .niter])
  | some (.map _ _), some (.map b) => (match S.get b with | some (.map _ _ clock) => some (.val (.iter S.next) [.new (.miter b clock [])]) | _ => none)
  | _, _ => none

def evNextStr (P : Program) (x : Operand) (env : Env) (S : St) : Option Res :=
  match opnd env x with
  | some (.iter b) =>
    match S.get b with
    | some (.siter s pos) =>
      if pos < s.length then
        let d := Utf8.decode ⟨s.toArray⟩ pos
        some (.val (.tup [.c (.bool true), .c (.int .i64 pos), .c (.int .i32 d.1)]) [.put b (.siter s (pos + d.2))])
      else some (.val (.tup [.c (.bool false)]) [])
    | _ => none
  | _ => none

def evNextMap (P : Program) (x : Operand) (env : Env) (S : St) : Option Res :=
  match opnd env x with
  | some (.iter b) => aNextMap b S (S.get b)
  | _ => none

def evEntry (P : Program) (x : Operand) (env : Env) (S : St) : Option Res :=
  match opnd env x with
  | some (.iter b) => aEntry S (S.get b)
  | _ => none

def evTypeAssert (P : Program) (x : Operand) (T : TypeId) (ok : Bool) (env : Env) (S : St) : Option Res :=
  match opnd env x with
  | some a => (aAssert P a T ok).map fun v => .val v []
  | none => none

def evExtract (P : Program) (x : Operand) (i : Nat) (env : Env) (S : St) : Option Res :=
  match opnd env x with
  | some (.tup l) => (l[i]?).map fun v => .val v []
  | _ => none

def evPanic (P : Program) (x : Operand) (env : Env) (S : St) : Option Res :=
  match opnd env x with
  | some (.c (.iface t v)) => some (.pan (.c (.iface t v)))
  | some (.iface t v) => some (.pan (.iface t v))
  | _ => none

def evBuiltin (P : Program) (b : Builtin) (args : Array Operand) (argTypes : Array TypeId) (env : Env) (S : St) : Option Res :=
  match opnds env args.toList with
  | some l => (aBuiltin P b argTypes.toList l S).map fun r => .val r.1 r.2
  | none => none

def evCall (P : Program) (f : Operand) (args : Array Operand) (env : Env) (S : St) : Option Res :=
  match opnd env f, opnds env args.toList with
  | some g, some l =>
    match calleeA g with
    | some (f, first, caps) => some (.call f (first ++ l ++ caps))
    | none => none
  | _, _ => none

/-- What an operation does: a value (and the state), a call, a panic. -/
def evalOp (P : Program) (o : Oper) (env : Env) (S : St) : Option Res :=
  match o.op with
  | .move x => evMove P x env S
  | .assign x => evMove P x env S
  | .pick c a b => evPick P c a b env S
  | .alloc t => evAlloc P t env S
  | .box t x => evBox P t x env S
  | .build t ps => evBuild P t ps env S
  | .buildSlice t n ps => evBuildSlice P t n ps env S
  | .load t x => evLoad P t x env S
  | .store t x y => evStore P t x y env S
  | .nilCheck x => evNilCheck P x env S
  | .binOp op t x y _ => evBinOp P op t x y env S
  | .unOp op _ x => evUnOp P op x env S
  | .convert src dst x => evConvert P src dst x env S
  | .makeInterface t x => evMakeInterface P t x env S
  | .makeFunc (.func f) first caps => evMakeFunc P f first caps env S
  | .makeMap _ none => evMakeMap P env S
  | .makeSlice t n m => evMakeSlice P t n m env S
  | .slice t x lo hi mx => evSlice P t x lo hi mx env S
  | .fieldAddr t x f => evFieldAddr P t x f env S
  | .field t x f => evField P t x f env S
  | .indexAddr t x i => evIndexAddr P t x i env S
  | .index t x i => evIndex P t x i env S
  | .lookup t m k ok => evLookup P t m k ok env S
  | .mapUpdate t m k v => evMapUpdate P t m k v env S
  | .insert t m k v => evMapUpdate P t m k v env S
  | .range t x => evRange P t x env S
  | .next x true => evNextStr P x env S
  | .next x false => evNextMap P x env S
  | .entry x => evEntry P x env S
  | .typeAssert x _ T ok => evTypeAssert P x T ok env S
  | .extract x i => evExtract P x i env S
  | .panic x => evPanic P x env S
  | .call { callee := .builtin b, args, argTypes } => evBuiltin P b args argTypes env S
  | .call { callee := .value f, args, .. } => evCall P f args env S
  | _ => none

end Go.Abs
