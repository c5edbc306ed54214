/-
  The abstract machine, part Z: a run as a function, for the kernel: memory and slots in trees, loops and calls with fuel.
-/
import Derived.Test.YtnnbhfoimaodhaaAbsY
namespace Go.Abs
set_option linter.unusedVariables false

/-! ### Trees -/
inductive Tr (α : Type) where
  | nil
  | node (v : Option α) (l r : Tr α)

def Tr.get {α : Type} : Tr α → Nat → Option α
  | .nil, _ => none
  | .node v l r, k => bif Nat.beq k 0 then v else bif Nat.beq (k % 2) 1 then l.get (k / 2) else r.get (k / 2 - 1)

/-- Lays a value at a place; none: the tree would be too deep. -/
def Tr.set {α : Type} : Nat → Tr α → Nat → α → Option (Tr α)
  | 0, _, _, _ => none
  | d + 1, .nil, k, x => bif Nat.beq k 0 then some (.node (some x) .nil .nil) else
      bif Nat.beq (k % 2) 1 then (match Tr.set d .nil (k / 2) x with | some t => some (.node none t .nil) | none => none)
      else (match Tr.set d .nil (k / 2 - 1) x with | some t => some (.node none .nil t) | none => none)
  | d + 1, .node v l r, k, x => bif Nat.beq k 0 then some (.node (some x) l r) else
      bif Nat.beq (k % 2) 1 then (match Tr.set d l (k / 2) x with | some t => some (.node v t r) | none => none)
      else (match Tr.set d r (k / 2 - 1) x with | some t => some (.node v l t) | none => none)

abbrev EE := Tr AV
def EE.toEnv (e : EE) : Env := fun t => match e.get t with | some v => v | none => .undef

/-- Memory: below 'lo' nothing was written since the call began. -/
structure ES where
  next : Nat
  lo : Nat
  mem : Tr Ob

def ES.toSt (s : ES) : St := { next := s.next, get := fun b => bif Nat.blt b s.next then s.mem.get b else none, spare := [], dirty := [] }

def ES.cmd (s : ES) : Cmd → Option ES
  | .new o => match Tr.set 32 s.mem s.next o with | some m => some { s with next := s.next + 1, mem := m } | none => none
  | .put b o => bif Nat.blt b s.next then (match Tr.set 32 s.mem b o with | some m => some { s with lo := bif Nat.blt b s.lo then b else s.lo, mem := m } | none => none) else none
  | .mark _ => none
  | .take _ => none

def ES.run (s : ES) : List Cmd → Option ES
  | [] => some s
  | c :: r => match s.cmd c with | some s' => s'.run r | none => none

def EE.put (N : Nat) (e : EE) (d : Option Tmp) (v : AV) : Option EE :=
  match d with
  | none => some e
  | some t => bif Nat.blt t N then Tr.set 16 e t v else none

abbrev Caller := FuncId → List AV → ES → Option (CX × ES)

/-- How an operation went: on, with the slots and the memory; or a panic. -/
inductive OR where
  | on (e : EE) (s : ES)
  | pan (v : AV) (e : EE) (s : ES)

def orPan (N : Nat) (d : Option Tmp) (v : AV) (e : EE) (s : ES) : Option OR :=
  match d with
  | none => some (.pan v e s)
  | some t => bif Nat.blt t N then some (.pan v e s) else none

def orCall (N : Nat) (d : Option Tmp) (e : EE) : Option (CX × ES) → Option OR
  | some (.ret v, s') => (match EE.put N e d v with | some e' => some (.on e' s') | none => none)
  | some (.panic v, s') => orPan N d v e s'
  | none => none

def orVal (N : Nat) (d : Option Tmp) (e : EE) (v : AV) : Option ES → Option OR
  | some s' => (match EE.put N e d v with | some e' => some (.on e' s') | none => none)
  | none => none

def orRes (call : Caller) (N : Nat) (d : Option Tmp) (e : EE) (s : ES) : Option Res → Option OR
  | some (.val v cm) => orVal N d e v (s.run cm)
  | some (.skip cm) => orVal N d e (.tup []) (s.run cm)
  | some (.call f args) => orCall N d e (call f args s)
  | some (.pan v) => orPan N d v e s
  | some (.any [p]) => orVal N d e p.1 (s.run p.2)
  | _ => none

def orOp (P : Program) (call : Caller) (N : Nat) (o : Oper) (e : EE) (s : ES) : Option Bool → Option OR
  | some true => orRes call N o.dst e s (evalOp P o e.toEnv s.toSt)
  | some false => orVal N o.dst e (.tup []) (some s)
  | none => none

/-- The operations of a region in the order of the text. -/
def xOps (P : Program) (call : Caller) (N : Nat) (ops : List Oper) : List Oper → EE → ES → Option OR
  | [], e, s => some (.on e s)
  | o :: rest, e, s =>
    match orOp P call N o e s (wantedA ops e.toEnv o) with
    | some (.on e' s') => xOps P call N ops rest e' s'
    | r => r

/-! Equality of values, as a function -/
mutual
def FV.beq : FV → FV → Bool
  | .bool a, .bool b => a == b
  | .int k a, .int k' b => decide (k = k') && decide (a = b)
  | .str a, .str b => a == b
  | .nilp, .nilp => true
  | .nils, .nils => true
  | .nilm, .nilm => true
  | .nilf, .nilf => true
  | .nili, .nili => true
  | .fn f, .fn g => Nat.beq f g
  | .sl a, .sl b => FV.beqs a b
  | .agg a, .agg b => FV.beqs a b
  | .iface t a, .iface u b => Nat.beq t u && FV.beq a b
  | _, _ => false
def FV.beqs : List FV → List FV → Bool
  | [], [] => true
  | x :: r, y :: q => FV.beq x y && FV.beqs r q
  | _, _ => false
end

mutual
def AV.beq : AV → AV → Bool
  | .c a, .c b => FV.beq a b
  | .ref b o, .ref b' o' => Nat.beq b b' && Nat.beq o o'
  | .fref e o, .fref e' o' => FV.beq e e' && Nat.beq o o'
  | .gref a, .gref b => Nat.beq a b
  | .sl b o l s f, .sl b' o' l' s' f' => Nat.beq b b' && Nat.beq o o' && Nat.beq l l' && Nat.beq s s' && (f == f')
  | .fz t xs, .fz u ys => Nat.beq t u && FV.beqs xs ys
  | .map a, .map b => Nat.beq a b
  | .iter a, .iter b => Nat.beq a b
  | .clo f a b, .clo g a' b' => Nat.beq f g && AV.beqs a a' && AV.beqs b b'
  | .iface t a, .iface u b => Nat.beq t u && AV.beq a b
  | .agg a, .agg b => AV.beqs a b
  | .tup a, .tup b => AV.beqs a b
  | .undef, .undef => true
  | _, _ => false
def AV.beqs : List AV → List AV → Bool
  | [], [] => true
  | x :: r, y :: q => AV.beq x y && AV.beqs r q
  | _, _ => false
end

def xStabVal (e : EE) (d : Option Tmp) : Option Res → Bool
  | some (.val v []) => (match d with | some t => AV.beq v (e.toEnv.get t) | none => false)
  | _ => false

def xStabOne (P : Program) (ops : List Oper) (e : EE) (s : ES) (o : Oper) : Option Bool → Bool
  | some false => o.dst.isSome
  | some true => xStabVal e o.dst (evalOp P o e.toEnv s.toSt)
  | none => xStabVal e o.dst (evalOp P o e.toEnv s.toSt)

def xStab (P : Program) (ops : List Oper) (e : EE) (s : ES) : List Nat → Bool
  | [] => true
  | i :: r => (match ops[i]? with | some o => xStabOne P ops e s o (wantedA ops e.toEnv o) | none => false) && xStab P ops e s r

/-- A float of a plan: a value and nothing else. -/
def xQuiet (N : Nat) (d : Option Tmp) (e : EE) (s : ES) : Option (CX × ES) → Option OR
  | some (.ret v, s') => bif Nat.beq s'.next s.next && Nat.ble s.next s'.lo then orVal N d e v (some s) else none
  | _ => none

def xFloat (call : Caller) (N : Nat) (d : Option Tmp) (e : EE) (s : ES) : Option Res → Option OR
  | some (.val v []) => orVal N d e v (some s)
  | some (.call f args) => xQuiet N d e s (call f args { s with lo := s.next })
  | _ => none

def xFloatB (P : Program) (call : Caller) (N : Nat) (o : Oper) (e : EE) (s : ES) : Option Bool → Option OR
  | some true => xFloat call N o.dst e s (evalOp P o e.toEnv s.toSt)
  | some false => orVal N o.dst e (.tup []) (some s)
  | none => none

def xChk (P : Program) (ops : List Oper) (chk : List Nat) : Option OR → Option OR
  | some (.on e s) => bif xStab P ops e s chk then some (.on e s) else none
  | _ => none

def xPlan (P : Program) (call : Caller) (N : Nat) (ops : List Oper) : Plan → EE → ES → Option OR
  | .done, e, s => some (.on e s)
  | .op i next, e, s =>
    match ops[i]? with
    | none => none
    | some o => (match xFloatB P call N o e s (wantedA ops e.toEnv o) with | some (.on e' s') => xPlan P call N ops next e' s' | _ => none)
  | .step i chk next .done, e, s =>
    match ops[i]? with
    | none => none
    | some o => (match xChk P ops chk (orOp P call N o e s (wantedA ops e.toEnv o)) with | some (.on e' s') => xPlan P call N ops next e' s' | _ => none)
  | .step _ _ _ _, _, _ => none

/-! Code -/
abbrev XR := Option (AX × EE × ES)

def ofOR : Option OR → XR
  | some (.on e s) => some (.normal, e, s)
  | some (.pan v e s) => some (.panic v, e, s)
  | none => none

def xLoop (body : EE → ES → XR) : Nat → EE → ES → XR
  | 0, _, _ => none
  | n + 1, e, s =>
    match body e s with
    | some (.normal, e', s') => xLoop body n e' s'
    | r => r

abbrev Pl := Nat → Option (List Nat × Plan)

def xCode (P : Program) (pl : Pl) (call : Caller) (N : Nat) (fuel : Nat) : Code → EE → ES → XR
  | .skip, e, s => some (.normal, e, s)
  | .region _ ops false, e, s => ofOR (xOps P call N ops.toList ops.toList e s)
  | .region id ops true, e, s => (match pl id with | some p => ofOR (xPlan P call N ops.toList p.2 e s) | none => none)
  | .seq x y, e, s =>
    match xCode P pl call N fuel x e s with
    | some (.normal, e', s') => xCode P pl call N fuel y e' s'
    | r => r
  | .cond c x y, e, s =>
    match opnd e.toEnv c with
    | some (.c (.bool true)) => xCode P pl call N fuel x e s
    | some (.c (.bool false)) => xCode P pl call N fuel y e s
    | _ => none
  | .block id c, e, s =>
    match xCode P pl call N fuel c e s with
    | some (.exit j, e', s') => bif Nat.beq j id then some (.normal, e', s') else some (.exit j, e', s')
    | r => r
  | .loop c, e, s => xLoop (xCode P pl call N fuel c) fuel e s
  | .exit id, e, s => some (.exit id, e, s)
  | .ret, e, s => some (.ret, e, s)
  | _, _, _ => none

/-- Are the plans right? -/
def codeOk (pl : Pl) : Code → Bool
  | .region id ops true => (match pl id with | some p => pairsOk ops p.1 && okPlan ops p.1 [] [] p.2 | none => true)
  | .seq x y => codeOk pl x && codeOk pl y
  | .cond _ x y => codeOk pl x && codeOk pl y
  | .block _ c => codeOk pl c
  | .loop c => codeOk pl c
  | _ => true

def argsT : List AV → Nat → EE → Option EE
  | [], _, e => some e
  | v :: r, i, e => match Tr.set 16 e i v with | some e' => argsT r (i + 1) e' | none => none

def oneOrTup : List AV → AV
  | [v] => v
  | l => .tup l

/-- The end of a call: what it made is forgotten, where nothing older was written and nothing of it is handed out. -/
def xEnd (s0 : ES) (v : AV) (s : ES) : CX × ES :=
  bif Nat.ble s0.next s.lo && v.under s0.next 4 then (.ret v, s0) else (.ret v, { s with lo := bif Nat.blt s.lo s0.lo then s.lo else s0.lo })

def xBody (P : Program) (rs : List ResultVar) (s0 : ES) : XR → Option (CX × ES)
  | some (.normal, e, s) => (match resAs P e.toEnv s.toSt rs with | some l => some (xEnd s0 (oneOrTup l) s) | none => none)
  | some (.ret, e, s) => (match resAs P e.toEnv s.toSt rs with | some l => some (xEnd s0 (oneOrTup l) s) | none => none)
  | some (.panic v, _, s) => some (.panic v, { s with lo := bif Nat.blt s.lo s0.lo then s.lo else s0.lo })
  | _ => none

def xFn (P : Program) (pl : Pl) (call : Caller) (fuel : Nat) (fn : Func) (args : List AV) (s : ES) : Option Code → Option (CX × ES)
  | some c => bif Nat.ble args.length fn.ntmps && codeOk pl c && !(fn.name == "runtime.NumGoroutine") then
      (match argsT args 0 .nil with
       | some e => xBody P fn.results.toList s (xCode P pl call fn.ntmps fuel c e { s with lo := s.next })
       | none => none) else none
  | none => none

/-- Functions that are known otherwise. -/
inductive Ext1 where
  | no
  | yes (r : Option (CX × ES))

def xCallD (P : Program) (pl : Nat → Pl) (call : Caller) (fuel : Nat) (f : FuncId) (args : List AV) (s : ES) : Ext1 → Option (CX × ES)
  | .yes r => r
  | .no => (match P.funcs[f]? with | some fn => xFn P (pl f) call fuel fn args s fn.body | none => none)

def xCall (P : Program) (pl : Nat → Pl) (ext : FuncId → List AV → ES → Ext1) (fuel : Nat) : Nat → Caller
  | 0, _, _, _ => none
  | d + 1, f, args, s => xCallD P pl (xCall P pl ext fuel d) fuel f args s (ext f args s)

end Go.Abs
