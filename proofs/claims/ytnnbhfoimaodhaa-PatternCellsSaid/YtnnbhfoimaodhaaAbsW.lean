/-
  The abstract machine, part W: how its words are read by 'simp'.
-/
import Derived.Test.YtnnbhfoimaodhaaAbsV
import Derived.Attr
namespace Go.Abs
set_option linter.unusedVariables false
set_option linter.unusedSimpArgs false

theorem opnd_tmp (env : Env) (t : Nat) : opnd env (.tmp t) = some (env.get t) := rfl
theorem opnd_bool (env : Env) (b : Bool) : opnd env (.const (.bool b)) = some (.c (.bool b)) := rfl
theorem opnd_int (env : Env) (k : IntKind) (n : Int) : opnd env (.const (.int k n)) = some (.c (.int k n)) := rfl
theorem opnd_str (env : Env) (l : List UInt8) : opnd env (.const (.string ⟨l.toArray⟩)) = some (.c (.str l)) := rfl
theorem opnd_nilp (env : Env) : opnd env (.const (.pointer none)) = some (.c .nilp) := rfl
theorem opnd_nils (env : Env) : opnd env (.const (.slice none 0 0)) = some (.c .nils) := rfl
theorem opnd_nilm (env : Env) : opnd env (.const (.map none)) = some (.c .nilm) := rfl
theorem opnd_nilf (env : Env) : opnd env (.const .nilFunc) = some (.c .nilf) := rfl
theorem opnd_nili (env : Env) : opnd env (.const .nilIface) = some (.c .nili) := rfl
theorem opnd_func (env : Env) (f : Nat) : opnd env (.func f) = some (.c (.fn f)) := rfl
theorem opnd_global (env : Env) (g : Nat) : opnd env (.global g) = some (.gref g) := rfl
theorem get_set_eq (e : Env) (t : Nat) (v : AV) : (e.set t v).get t = v := by simp [Env.get_set]
theorem get_set_ne (e : Env) (t u : Nat) (v : AV) (h : t ≠ u) : (e.set t v).get u = e.get u := by simp [Env.get_set, h]
theorem ble_dec (a b : Nat) : Nat.ble a b = decide (a ≤ b) := by
  by_cases h : a ≤ b
  · simp [Nat.ble_eq_true_of_le h, h]
  · cases hb : Nat.ble a b with
    | false => simp [h]
    | true => exact absurd (Nat.le_of_ble_eq_true hb) h
theorem blt_dec (a b : Nat) : Nat.blt a b = decide (a < b) := by
  rw [Nat.blt, ble_dec]; rfl
theorem beq_dec (a b : Nat) : Nat.beq a b = decide (a = b) := by
  by_cases h : a = b
  · simp [h]
  · simp [h, beq_ne h]

/-- The end of a body, by the list of its results. -/
def endR (P : Program) (B : Nat) (R : CX → St → Prop) (S : St) : Option (List AV) → Prop
  | some [v] => ends P B R v S
  | some [] => ends P B R (.tup []) S
  | some (a :: b :: l) => ends P B R (.tup (a :: b :: l)) S
  | none => False

def bodyR (P : Program) (rs : List ResultVar) (B : Nat) (R : CX → St → Prop) : AQ
  | .normal, env, S => endR P B R S (resAs P env S rs)
  | .ret, env, S => endR P B R S (resAs P env S rs)
  | .panic v, _, S => R (.panic v) S
  | .exit _, _, _ => False

theorem endR_resultA {P : Program} {fn : Func} {B : Nat} {R : CX → St → Prop} {env : Env} {S : St} (h : endR P B R S (resAs P env S fn.results.toList)) :
    (match resultA P fn env S with
    | some v => ends P B R v S
    | none => False) := by
  unfold resultA
  cases hr : resAs P env S fn.results.toList with
  | none => rw [hr] at h; exact h
  | some l =>
    rw [hr] at h
    match l, h with
    | [], h => exact h
    | [v], h => exact h
    | a :: b :: l, h => exact h

theorem WCode.mono {P : Program} {N : Nat} {c : Code} {Q Q' : AQ} {env : Env} {S : St} (h : WCode P N c Q env S) (hq : ∀ x env S, Q x env S → Q' x env S) : W P N c Q' env S :=
  (wcode_sound h).mono hq

theorem wc_fn {P : Program} {f : FuncId} {fn : Func} {c : Code} {N : Nat} {rs : List ResultVar} (hf : P.funcs[f]? = some fn) (hn : (fn.name == "runtime.NumGoroutine") = false) (hb : fn.body = some c)
    (hN : fn.ntmps = N) (hr : fn.results.toList = rs) {args : List AV} {R : CX → St → Prop} {S : St} (hlen : Nat.ble args.length N = true) (h : Shut S → WCode P N c (bodyR P rs S.next R) (envOf args 0) S) : WC P f args R S := by
  subst hN; subst hr
  refine wc_of_body' hf hn hb (Nat.le_of_ble_eq_true hlen) fun hS => (wcode_sound (h hS)).mono ?_
  intro x env S' hx
  cases x with
  | normal => exact endR_resultA hx
  | ret => exact endR_resultA hx
  | panic v => exact hx
  | exit i => exact hx

theorem wc_is {P : Program} {f : FuncId} {args : List AV} {v : AV} {S S0 : St} {K : CX → St → Prop} (h : WC P f args (Is v S0) S) (hk : K (.ret v) S0) : WC P f args K S :=
  h.mono fun x S' ⟨h1, h2⟩ => by subst h1; subst h2; exact hk

theorem ends_now {P : Program} {B : Nat} {R : CX → St → Prop} {v : AV} {S : St} (h : R (.ret v) S) : ends P B R v S := .inl (.inl h)
theorem ends_pop {P : Program} {B : Nat} {R : CX → St → Prop} {v : AV} {S : St} (h1 : v.under B 4 = true) (h2 : PopOk B S) (h : R (.ret v) (S.pop B)) : ends P B R v S := .inl (.inr ⟨h1, h2, h⟩)
theorem ends_freeze {P : Program} {B : Nat} {R : CX → St → Prop} {v v' : AV} {S S' : St} (hf : freezeA P v S = (v', S')) (h1 : v'.under B 4 = true) (h2 : PopOk B S') (h : R (.ret v') (S'.pop B)) : ends P B R v S :=
  .inr (.inr (by rw [hf]; exact ⟨h1, h2, h⟩))

theorem popOk_self {S : St} (h : Shut S) : PopOk S.next S := h.2

/-! ### The words of the machine, one step each -/
section
variable {P : Program} {N : Nat} {ops : List Oper} {Q : AQ} {K : Env → St → Prop} {KA Pan : AV → St → Prop} {env : Env} {S : St} {d : Option Tmp} {o : Oper} {R : CX → St → Prop} {B : Nat}
theorem wops_nil : WOps P N ops Q [] env S = Q .normal env S := rfl
theorem wops_cons {rest : List Oper} : WOps P N ops Q (o :: rest) env S = (dstOk N o.dst ∧ guardK P (WOps P N ops Q rest) Q o env S (wantedA ops env o)) := rfl
theorem guardK_false : guardK P K Q o env S (some false) = K (env.setO o.dst (.tup [])) S := rfl
theorem guardK_true : guardK P K Q o env S (some true) = resK P K Q env S o.dst (evalOp P o env S) := rfl
theorem resK_val {v : AV} {cm : List Cmd} : resK P K Q env S d (some (.val v cm)) = K (env.setO d v) (S.run cm) := rfl
theorem resK_skip {cm : List Cmd} : resK P K Q env S d (some (.skip cm)) = K (env.setO d (.tup [])) (S.run cm) := rfl
theorem resK_call {f : FuncId} {args : List AV} : resK P K Q env S d (some (.call f args)) = WC P f args (callK K Q env d) S := rfl
theorem resK_pan {v : AV} : resK P K Q env S d (some (.pan v)) = Q (.panic v) env S := rfl
theorem resK_any {l : List (AV × List Cmd)} : resK P K Q env S d (some (.any l)) = ∀ p ∈ l, K (env.setO d p.1) (S.run p.2) := rfl
theorem stepRes_any {l : List (AV × List Cmd)} : stepRes P KA Pan S (some (.any l)) = ∀ p ∈ l, KA p.1 (S.run p.2) := rfl
theorem callK_ret {v : AV} : callK K Q env d (.ret v) S = K (env.setO d v) S := rfl
theorem callK_panic {v : AV} : callK K Q env d (.panic v) S = Q (.panic v) env S := rfl
theorem contK_ret {v : AV} : contK KA Pan (.ret v) S = KA v S := rfl
theorem contK_panic {v : AV} : contK KA Pan (.panic v) S = Pan v S := rfl
theorem stepA_false : stepA P o KA Pan env S (some false) = KA (.tup []) S := rfl
theorem stepA_true : stepA P o KA Pan env S (some true) = stepRes P KA Pan S (evalOp P o env S) := rfl
theorem stepRes_val {v : AV} {cm : List Cmd} : stepRes P KA Pan S (some (.val v cm)) = KA v (S.run cm) := rfl
theorem stepRes_skip {cm : List Cmd} : stepRes P KA Pan S (some (.skip cm)) = KA (.tup []) (S.run cm) := rfl
theorem stepRes_call {f : FuncId} {args : List AV} : stepRes P KA Pan S (some (.call f args)) = WC P f args (contK KA Pan) S := rfl
theorem stepRes_pan {v : AV} : stepRes P KA Pan S (some (.pan v)) = Pan v S := rfl
theorem stepK_eq {chk : List Nat} {v : AV} : stepK P ops chk K env d v S = (stab P ops (env.setO d v) S chk ∧ K (env.setO d v) S) := rfl
theorem panK_eq {v : AV} : panK Q v S = ∀ env, Q (.panic v) env S := rfl
theorem opA_false : opA P K o env S (some false) = K (env.setO o.dst (.tup [])) S := rfl
theorem opA_true : opA P K o env S (some true) = opRes P K env S o.dst (evalOp P o env S) := rfl
theorem opRes_val {v : AV} : opRes P K env S d (some (.val v [])) = K (env.setO d v) S := rfl
theorem opRes_call {f : FuncId} {args : List AV} : opRes P K env S d (some (.call f args)) = ∃ v, WC P f args (Is v S) S ∧ K (env.setO d v) S := rfl
theorem stab_nil : stab P ops env S [] = True := rfl
theorem stab_cons {i : Nat} {r : List Nat} : stab P ops env S (i :: r) = (stabOne P ops env S i ∧ stab P ops env S r) := rfl
def stabAt (P : Program) (ops : List Oper) (env : Env) (S : St) : Option Oper → Prop
  | none => False
  | some o => stabD P ops env S o o.dst
where stabD (P : Program) (ops : List Oper) (env : Env) (S : St) (o : Oper) : Option Tmp → Prop
  | none => False
  | some d => wantedA ops env o = some false ∨ Yields P (env.get d) S (evalOp P o env S)
theorem stabOne_eq {i : Nat} : stabOne P ops env S i = stabAt P ops env S ops[i]? := by
  unfold stabOne stabAt
  cases ops[i]? with
  | none => rfl
  | some o =>
    simp only
    unfold stabAt.stabD
    cases o.dst <;> rfl
theorem stabAt_some : stabAt P ops env S (some o) = stabAt.stabD P ops env S o o.dst := rfl
theorem stabD_some {d : Tmp} : stabAt.stabD P ops env S o (some d) = (wantedA ops env o = some false ∨ Yields P (env.get d) S (evalOp P o env S)) := rfl
theorem yields_val {u v : AV} : Yields P v S (some (.val u [])) = (u = v) := rfl
theorem yields_call {f : FuncId} {args : List AV} {v : AV} : Yields P v S (some (.call f args)) = WC P f args (Is v S) S := rfl
theorem wplan_done : WPlan P N ops Q .done env S = Q .normal env S := rfl
def atOp (N : Nat) (K : Oper → Prop) : Option Oper → Prop
  | none => False
  | some o => dstOk N o.dst ∧ K o
def opAt' (P : Program) (ops : List Oper) (K : Env → St → Prop) (env : Env) (S : St) (o : Oper) : Prop := opA P K o env S (wantedA ops env o)
def stepAt (P : Program) (ops : List Oper) (chk : List Nat) (K : Env → St → Prop) (Q : AQ) (env : Env) (S : St) (o : Oper) : Prop :=
  stepA P o (stepK P ops chk K env o.dst) (panK Q) env S (wantedA ops env o)
theorem wplan_op {i : Nat} {next : Plan} : WPlan P N ops Q (.op i next) env S = atOp N (opAt' P ops (WPlan P N ops Q next) env S) ops[i]? := by
  simp only [WPlan]
  cases ops[i]? <;> rfl
theorem wplan_step {i : Nat} {chk : List Nat} {next alt : Plan} : WPlan P N ops Q (.step i chk next alt) env S =
    ((alt.isDone = true ∨ WPlan P N ops Q alt env S) ∧ atOp N (stepAt P ops chk (WPlan P N ops Q next) Q env S) ops[i]?) := by
  simp only [WPlan]
  cases ops[i]? <;> rfl
theorem atOp_some {K : Oper → Prop} : atOp N K (some o) = (dstOk N o.dst ∧ K o) := rfl
theorem opAt'_eq : opAt' P ops K env S o = opA P K o env S (wantedA ops env o) := rfl
theorem stepAt_eq {chk : List Nat} : stepAt P ops chk K Q env S o = stepA P o (stepK P ops chk K env o.dst) (panK Q) env S (wantedA ops env o) := rfl
theorem isDone_done : Plan.done.isDone = true := rfl
theorem isDone_step {i : Nat} {chk : List Nat} {next alt : Plan} : (Plan.step i chk next alt).isDone = false := rfl
theorem thenX_normal {next : Env → St → Prop} : thenX next Q .normal env S = next env S := rfl
theorem thenX_exit {next : Env → St → Prop} {i : Nat} : thenX next Q (.exit i) env S = Q (.exit i) env S := rfl
theorem thenX_ret {next : Env → St → Prop} : thenX next Q .ret env S = Q .ret env S := rfl
theorem thenX_panic {next : Env → St → Prop} {v : AV} : thenX next Q (.panic v) env S = Q (.panic v) env S := rfl
theorem blockX_normal {i : Nat} : blockX i Q .normal env S = Q .normal env S := rfl
theorem blockX_exit {i j : Nat} : blockX i Q (.exit j) env S = if j = i then Q .normal env S else Q (.exit j) env S := rfl
theorem blockX_ret {i : Nat} : blockX i Q .ret env S = Q .ret env S := rfl
theorem blockX_panic {i : Nat} {v : AV} : blockX i Q (.panic v) env S = Q (.panic v) env S := rfl
theorem wcode_skip : WCode P N .skip Q env S = Q .normal env S := rfl
theorem wcode_region {id : Nat} {xs : List Oper} : WCode P N (.region id ⟨xs⟩ false) Q env S = WOps P N xs Q xs env S := rfl
theorem wcode_draw {id : Nat} {xs : Array Oper} : WCode P N (.region id xs true) Q env S = WDraw P N id xs Q env S := rfl
theorem wcode_seq {x y : Code} : WCode P N (.seq x y) Q env S = WCode P N x (thenX (WCode P N y Q) Q) env S := rfl
theorem wcode_cond {c : Operand} {x y : Code} : WCode P N (.cond c x y) Q env S = condK (WCode P N x Q) (WCode P N y Q) env S (opnd env c) := rfl
theorem wcode_block {id : Nat} {x : Code} : WCode P N (.block id x) Q env S = WCode P N x (blockX id Q) env S := rfl
theorem wcode_loop {x : Code} : WCode P N (.loop x) Q env S = WLoop P N x Q env S := rfl
theorem wcode_exit {id : Nat} : WCode P N (.exit id) Q env S = Q (.exit id) env S := rfl
theorem wcode_ret : WCode P N .ret Q env S = Q .ret env S := rfl
theorem condK_true {A C : Env → St → Prop} : condK A C env S (some (.c (.bool true))) = A env S := rfl
theorem condK_false {A C : Env → St → Prop} : condK A C env S (some (.c (.bool false))) = C env S := rfl
theorem bodyR_normal {rs : List ResultVar} : bodyR P rs B R .normal env S = endR P B R S (resAs P env S rs) := rfl
theorem bodyR_ret {rs : List ResultVar} : bodyR P rs B R .ret env S = endR P B R S (resAs P env S rs) := rfl
theorem bodyR_panic {rs : List ResultVar} {v : AV} : bodyR P rs B R (.panic v) env S = R (.panic v) S := rfl
theorem endR_one {v : AV} : endR P B R S (some [v]) = ends P B R v S := rfl
theorem endR_none : endR P B R S (some []) = ends P B R (.tup []) S := rfl
theorem endR_two {a b : AV} {l : List AV} : endR P B R S (some (a :: b :: l)) = ends P B R (.tup (a :: b :: l)) S := rfl
theorem dstOk_some {t : Tmp} : dstOk N (some t) = (t < N) := rfl
theorem dstOk_none : dstOk N none = True := rfl
theorem setO_some {t : Tmp} {v : AV} : env.setO (some t) v = env.set t v := rfl
theorem setO_none {v : AV} : env.setO none v = env := rfl
def wantV (want : Bool) : AV → Option Bool
  | .c (.bool b) => some (b == want)
  | .tup [] => some false
  | _ => none
def wantG (env : Env) (want : Bool) : Option Oper → Option Bool
  | some g => (match g.dst with | some t => wantV want (env.get t) | none => none)
  | none => none
def wantO (ops : List Oper) (env : Env) : Option (Nat × Bool) → Option Bool
  | none => some true
  | some (j, w) => wantG env w ops[j]?
theorem wantedA_eq : wantedA ops env o = wantO ops env o.guard := by
  unfold wantedA wantO
  cases o.guard with
  | none => rfl
  | some p =>
    obtain ⟨j, w⟩ := p
    simp only [wantG]
    cases ops[j]? with
    | none => rfl
    | some g =>
      simp only
      cases g.dst <;> rfl
theorem wantO_none : wantO ops env none = some true := rfl
theorem wantO_some {j : Nat} {w : Bool} : wantO ops env (some (j, w)) = wantG env w ops[j]? := rfl
theorem wantG_some {w : Bool} {t : Tmp} {op : Op} {type : TypeId} {pos : String} {after : Array Edge} {guard : Option (Nat × Bool)} : wantG env w (some { dst := some t, op, type, pos, after, guard }) = wantV w (env.get t) := rfl
theorem wantV_true {b : Bool} : wantV true (.c (.bool b)) = some b := by cases b <;> rfl
theorem wantV_false {b : Bool} : wantV false (.c (.bool b)) = some (!b) := by cases b <;> rfl
theorem wantV_tup {w : Bool} : wantV w (.tup []) = some false := rfl
end

attribute [go_sem] resK_any stepRes_any aNextMap aNextIn aEntry aEntryIn entOf wops_nil wops_cons guardK_false guardK_true resK_val resK_skip resK_call resK_pan callK_ret callK_panic contK_ret contK_panic stepA_false stepA_true stepRes_val stepRes_skip stepRes_call stepRes_pan
  stepK_eq panK_eq opA_false opA_true opRes_val yields_val yields_call stab_nil stab_cons stabOne_eq stabAt_some stabD_some wplan_done wplan_op wplan_step atOp_some opAt'_eq stepAt_eq isDone_done isDone_step thenX_normal thenX_exit thenX_ret thenX_panic
  blockX_normal blockX_exit blockX_ret blockX_panic wcode_skip wcode_region wcode_draw wcode_seq wcode_cond wcode_block wcode_loop wcode_exit wcode_ret condK_true condK_false bodyR_normal bodyR_ret bodyR_panic
  endR_one endR_none endR_two dstOk_some dstOk_none setO_some setO_none wantedA_eq wantO_none wantO_some wantG_some wantV_true wantV_false wantV_tup
  evalOp evMove evPick evAlloc evBox evBuild evBuildSlice evLoad evStore evNilCheck evBinOp evUnOp evConvert evMakeInterface evMakeFunc evMakeMap evMakeSlice evSlice evFieldAddr evField evIndexAddr evIndex evLookup evMapUpdate evRange evNextStr evNextMap evEntry evTypeAssert evExtract evPanic evBuiltin evCall opnd_tmp opnd_bool opnd_int opnd_str opnd_nilp opnd_nils opnd_nilm opnd_nilf opnd_nili opnd_func opnd_global
  get_set_eq get_set_ne envOf_nil envOf_cons Option.map_some Option.map_none St.run St.cmd and_true true_and if_true if_false ite_true ite_false aBin aInt ne_eq not_true_eq_false not_false_eq_true
  cond_true cond_false List.getElem?_cons_zero List.getElem?_cons_succ Bool.not_true Bool.not_false Bool.not_eq_true' Bool.true_eq_false Bool.false_eq_true false_implies true_implies implies_true
  forall_const List.toList_toArray opnds optA partsA AV.cells FV.cells List.map_cons List.map_nil setRange List.take_succ_cons List.take_zero List.drop_succ_cons List.drop_zero
  List.cons_append List.nil_append List.append_nil List.length_cons List.length_nil ble_dec blt_dec beq_dec decide_true decide_false decide_eq_true_eq mkAgg allPure partOf aLoad aStore aNew
  AV.loose AV.scalar List.all_cons List.all_nil List.any_cons List.any_nil Bool.and_true Bool.true_and Bool.or_false Bool.false_or Bool.and_false Bool.false_and Bool.or_true Bool.true_or
  St.get_put St.get_new next_new next_put aUn aSlice aIndexAddr aIndex boundA aConv aBuiltin lenA aAppend aCopy rowCells calleeA
  fillA repCells AV.isRef AV.isRow aStr aEq List.length_map resAs resA or_true true_or or_false false_or and_self

end Go.Abs
