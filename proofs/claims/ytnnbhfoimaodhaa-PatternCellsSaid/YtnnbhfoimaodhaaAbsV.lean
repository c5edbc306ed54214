/-
  The abstract machine, part V: regions whose order is open.
-/
import Derived.Test.YtnnbhfoimaodhaaAbsU
namespace Go.Abs
set_option linter.unusedVariables false
set_option linter.unusedSimpArgs false

/-! ### What an operation looks at -/
def AgreeO (env env' : Env) (x : Operand) : Prop := ∀ t, x = .tmp t → env.get t = env'.get t

theorem opnd_congr {env env' : Env} {x : Operand} (h : AgreeO env env' x) : opnd env x = opnd env' x := by
  cases x with
  | tmp t => simp [opnd, h t rfl]
  | _ => rfl

theorem opnds_congr {env env' : Env} : ∀ {l : List Operand}, (∀ x ∈ l, AgreeO env env' x) → opnds env l = opnds env' l
  | [], _ => rfl
  | x :: r, h => by simp only [opnds, opnd_congr (h x (by simp)), opnds_congr (l := r) fun y hy => h y (by simp [hy])]

theorem partsA_congr {env env' : Env} : ∀ {l : List (Nat × Operand)}, (∀ x ∈ l, AgreeO env env' x.2) → partsA env l = partsA env' l
  | [], _ => rfl
  | (i, x) :: r, h => by simp only [partsA, opnd_congr (h (i, x) (by simp)), partsA_congr (l := r) fun y hy => h y (by simp [hy])]

theorem optA_congr {env env' : Env} {x : Option Operand} (h : ∀ y, x = some y → AgreeO env env' y) : optA env x = optA env' x := by
  cases x with
  | none => rfl
  | some y => simp only [optA, opnd_congr (h y rfl)]

theorem evalOp_congr {P : Program} {o : Oper} {env env' : Env} {S : St} (h : ∀ x ∈ o.op.operands, AgreeO env env' x) : evalOp P o env S = evalOp P o env' S := by
  obtain ⟨dst, op, type, pos, after, guard⟩ := o
  cases op <;> simp only [Op.operands] at h <;> simp only [evalOp, evMove, evPick, evAlloc, evBox, evBuild, evBuildSlice, evLoad, evStore, evNilCheck, evBinOp, evUnOp, evConvert, evMakeInterface, evMakeFunc, evMakeMap, evMakeSlice, evSlice, evFieldAddr, evField, evIndexAddr, evIndex, evLookup, evMapUpdate, evRange, evNextStr, evNextMap, evEntry, evTypeAssert, evExtract, evPanic, evBuiltin, evCall]
  case move x => rw [opnd_congr (h x (by simp))]
  case assign x => rw [opnd_congr (h x (by simp))]
  case box t x => rw [opnd_congr (h x (by simp))]
  case load t x => rw [opnd_congr (h x (by simp))]
  case nilCheck x => rw [opnd_congr (h x (by simp))]
  case unOp t y x => rw [opnd_congr (h x (by simp))]
  case convert t y x => rw [opnd_congr (h x (by simp))]
  case makeInterface t x => rw [opnd_congr (h x (by simp))]
  case fieldAddr t x f => rw [opnd_congr (h x (by simp))]
  case field t x f => rw [opnd_congr (h x (by simp))]
  case range t x => rw [opnd_congr (h x (by simp))]
  case next x b => cases b <;> simp only [evalOp, evNextStr, evNextMap] <;> rw [opnd_congr (h x (by simp))]
  case entry x => rw [opnd_congr (h x (by simp))]
  case typeAssert x _ _ _ => rw [opnd_congr (h x (by simp))]
  case extract x _ => rw [opnd_congr (h x (by simp))]
  case panic x => rw [opnd_congr (h x (by simp))]
  case pick c a b =>
    rw [opnd_congr (h c (by simp))]
    have : ∀ t : Bool, opnd env (bif t then a else b) = opnd env' (bif t then a else b) := fun t => by
      cases t
      · exact opnd_congr (h b (by simp))
      · exact opnd_congr (h a (by simp))
    simp only [this]
  case build t ps =>
    rw [partsA_congr (env' := env') fun x hx => h x.2 (by simp; exact ⟨x.1, by simpa using hx⟩)]
  case buildSlice t n ps =>
    rw [partsA_congr (env' := env') fun x hx => h x.2 (by simp; exact ⟨x.1, by simpa using hx⟩)]
  case store t x y => rw [opnd_congr (h x (by simp)), opnd_congr (h y (by simp))]
  case binOp op t x y _ => rw [opnd_congr (h x (by simp)), opnd_congr (h y (by simp))]
  case makeSlice t x y => rw [opnd_congr (h x (by simp)), opnd_congr (h y (by simp))]
  case indexAddr t x y => rw [opnd_congr (h x (by simp)), opnd_congr (h y (by simp))]
  case index t x y => rw [opnd_congr (h x (by simp)), opnd_congr (h y (by simp))]
  case lookup t x y _ => rw [opnd_congr (h x (by simp)), opnd_congr (h y (by simp))]
  case mapUpdate t x y z => rw [opnd_congr (h x (by simp)), opnd_congr (h y (by simp)), opnd_congr (h z (by simp))]
  case insert t x y z => rw [opnd_congr (h x (by simp)), opnd_congr (h y (by simp)), opnd_congr (h z (by simp))]
  case makeFunc f a b =>
    cases f with
    | func f =>
      simp only [evalOp, evMakeFunc, evCall]
      rw [opnds_congr (env' := env') (l := a.toList) fun x hx => h x (by simp at hx; simp [hx]), opnds_congr (env' := env') (l := b.toList) fun x hx => h x (by simp at hx; simp [hx])]
    | _ => rfl
  case makeMap t r => cases r <;> rfl
  case slice t x lo hi mx =>
    rw [opnd_congr (h x (by simp)), optA_congr (env' := env') (x := lo) (fun y hy => h y (by simp [hy])), optA_congr (env' := env') (x := hi) (fun y hy => h y (by simp [hy])),
      optA_congr (env' := env') (x := mx) (fun y hy => h y (by simp [hy]))]
  case call c =>
    obtain ⟨callee, args, ats⟩ := c
    cases callee with
    | builtin b => simp only [evalOp, evBuiltin]; rw [opnds_congr (env' := env') fun x hx => h x (by simp at hx; simp [Call.operands, hx])]
    | value f =>
      simp only [evalOp, evMakeFunc, evCall]
      rw [opnd_congr (h f (by simp [Call.operands])), opnds_congr (env' := env') fun x hx => h x (by simp at hx; simp [Call.operands, hx])]
    | invoke r m => rfl

/-- Operations that neither look at the state nor change it. -/
def pureOp : Op → Bool
  | .move _ | .assign _ | .pick _ _ _ | .nilCheck _ | .binOp _ _ _ _ _ | .unOp _ _ _ | .fieldAddr _ _ _ | .field _ _ _ | .indexAddr _ _ _ | .index _ _ _ | .makeInterface _ _
  | .extract _ _ | .typeAssert _ _ _ _ | .build _ _ => true
  | _ => false

theorem evalOp_pure {P : Program} {o : Oper} {env : Env} {S S' : St} (h : pureOp o.op = true) : evalOp P o env S = evalOp P o env S' := by
  obtain ⟨dst, op, type, pos, after, guard⟩ := o
  cases op <;> first | rfl | (simp [pureOp] at h; done)

theorem wantedA_congr {ops : List Oper} {env env' : Env} {o : Oper} (h : ∀ t ∈ o.looksAt ops.toArray, env.get t = env'.get t) : wantedA ops env o = wantedA ops env' o := by
  unfold wantedA
  split
  · rfl
  · rename_i j want hg
    split
    · rename_i g hj
      split
      · rename_i t ht
        rw [h t (by simp [Oper.looksAt, hg, hj, ht])]
      · rfl
    · rfl

theorem evalOp_looks {P : Program} {ops : Array Oper} {o : Oper} {env env' : Env} {S : St} (h : ∀ t ∈ o.looksAt ops, env.get t = env'.get t) : evalOp P o env S = evalOp P o env' S :=
  evalOp_congr fun x hx t ht => h t (by
    subst ht
    exact List.mem_append_left _ (List.mem_filterMap.2 ⟨.tmp t, by simpa using hx, rfl⟩))

theorem pureOp_val {P : Program} {o : Oper} {env : Env} {S : St} {r : Res} (h : pureOp o.op = true) (he : evalOp P o env S = some r) : ∀ f args, r ≠ .call f args := by
  rintro f args rfl
  obtain ⟨dst, op, type, pos, after, guard⟩ := o
  cases op <;> first
    | exact absurd (show (false : Bool) = true from h) (by decide)
    | (simp only [evalOp, evMove, evPick, evNilCheck, evBinOp, evUnOp, evFieldAddr, evField, evIndexAddr, evIndex, evMakeInterface, evExtract, evTypeAssert, evBuild] at he
       repeat' split at he
       all_goals simp at he)

/-! ### Plans -/
inductive Plan where
  | done
  | op (i : Nat) (next : Plan)
  | step (i : Nat) (chk : List Nat) (next alt : Plan)

def Plan.isDone : Plan → Bool
  | .done => true
  | _ => false

def Plan.isStep : Plan → Bool
  | .step _ _ _ _ => true
  | _ => false

def preds (o : Oper) : List Nat := (o.after.toList.filter (Region.binds .any)).map (·.on)

def predsIn (L : List Nat) (o : Oper) : Bool := (preds o).all fun i => L.contains i

/-- What follows a call in a plan. -/
def contK (KA Pan : AV → St → Prop) (x : CX) (S : St) : Prop :=
  match x with
  | .ret v => KA v S
  | .panic v => Pan v S

def stepRes (P : Program) (KA Pan : AV → St → Prop) (S : St) : Option Res → Prop
  | none => False
  | some (.val v cm) => KA v (S.run cm)
  | some (.skip cm) => KA (.tup []) (S.run cm)
  | some (.call f args) => WC P f args (contK KA Pan) S
  | some (.pan v) => Pan v S
  | some (.any l) => ∀ p ∈ l, KA p.1 (S.run p.2)

/-- One step of an operation that may change the state. -/
def stepA (P : Program) (o : Oper) (KA Pan : AV → St → Prop) (env : Env) (S : St) : Option Bool → Prop
  | none => False
  | some false => KA (.tup []) S
  | some true => stepRes P KA Pan S (evalOp P o env S)

abbrev StepA (P : Program) (ops : List Oper) (o : Oper) (KA : AV → St → Prop) (Pan : AV → St → Prop) (env : Env) (S : St) : Prop := stepA P o KA Pan env S (wantedA ops env o)

/-- A value and nothing else. -/
def Yields (P : Program) (v : AV) (S : St) : Option Res → Prop
  | some (.val u []) => u = v
  | some (.call f args) => WC P f args (Is v S) S
  | _ => False

/-- The operation yields a value and nothing else. -/
def FVal (P : Program) (ops : List Oper) (o : Oper) (env : Env) (S : St) (v : AV) : Prop :=
  (wantedA ops env o = some false ∧ v = .tup []) ∨ (wantedA ops env o = some true ∧ Yields P v S (evalOp P o env S))

def stabOne (P : Program) (ops : List Oper) (env : Env) (S : St) (i : Nat) : Prop :=
  match ops[i]? with
  | none => False
  | some o =>
    match o.dst with
    | none => False
    | some d => wantedA ops env o = some false ∨ Yields P (env.get d) S (evalOp P o env S)

def stab (P : Program) (ops : List Oper) (env : Env) (S : St) : List Nat → Prop
  | [] => True
  | i :: r => stabOne P ops env S i ∧ stab P ops env S r

def stepK (P : Program) (ops : List Oper) (chk : List Nat) (K : Env → St → Prop) (env : Env) (d : Option Tmp) (v : AV) (S : St) : Prop :=
  stab P ops (env.setO d v) S chk ∧ K (env.setO d v) S

def panK (Q : AQ) (v : AV) (S : St) : Prop := ∀ env, Q (.panic v) env S

def opRes (P : Program) (K : Env → St → Prop) (env : Env) (S : St) (d : Option Tmp) : Option Res → Prop
  | some (.val v []) => K (env.setO d v) S
  | some (.call f args) => ∃ v, WC P f args (Is v S) S ∧ K (env.setO d v) S
  | _ => False

def opA (P : Program) (K : Env → St → Prop) (o : Oper) (env : Env) (S : St) : Option Bool → Prop
  | none => False
  | some false => K (env.setO o.dst (.tup [])) S
  | some true => opRes P K env S o.dst (evalOp P o env S)

def WPlan (P : Program) (N : Nat) (ops : List Oper) (Q : AQ) : Plan → Env → St → Prop
  | .done, env, S => Q .normal env S
  | .op i next, env, S =>
    match ops[i]? with
    | none => False
    | some o => dstOk N o.dst ∧ opA P (WPlan P N ops Q next) o env S (wantedA ops env o)
  | .step i chk next alt, env, S =>
    (alt.isDone = true ∨ WPlan P N ops Q alt env S) ∧
    match ops[i]? with
    | none => False
    | some o => dstOk N o.dst ∧
      StepA P ops o (stepK P ops chk (WPlan P N ops Q next) env o.dst) (panK Q) env S

/-! ### The check of a plan, by the region's text alone -/
def pairOk (ops : Array Oper) (ch : List Nat) (i j : Nat) : Bool :=
  match ops[i]?, ops[j]? with
  | some x, some y =>
    match x.dst with
    | none => true
    | some d => bif Nat.beq i j then (ch.contains i || !(y.looksAt ops).contains d) else
        (y.dst != some d) && ((preds y).contains i || !(y.looksAt ops).contains d || ((preds x).contains j && ch.contains i))
  | _, _ => false

def pairsOk (ops : Array Oper) (ch : List Nat) : Bool :=
  (List.range ops.size).all fun i => (List.range ops.size).all fun j => pairOk ops ch i j

def opAt (ops : Array Oper) (i : Nat) (p : Oper → Bool) : Bool :=
  match ops[i]? with
  | some o => p o
  | none => false

def okPlan (ops : Array Oper) (ch : List Nat) : List Nat → List Nat → Plan → Bool
  | L, _, .done => (List.range ops.size).all fun j => L.contains j
  | L, _, .op i next => !L.contains i && opAt ops i (fun o => predsIn L o && o.dst.isSome) && !ch.contains i && okPlan ops ch (i :: L) [] next
  | L, fs, .step i chk next alt => !L.contains i && opAt ops i (fun o => predsIn L o &&
        L.all fun f => ch.contains f || opAt ops f (fun p => pureOp p.op) || (preds o).contains f || chk.contains f) && ch.contains i && okPlan ops ch (i :: L) [] next &&
      (bif alt.isDone then (List.range ops.size).all fun j => L.contains j || (i :: fs).contains j || !(opAt ops j (predsIn L)) else alt.isStep && okPlan ops ch L (i :: fs) alt)

/-! ### Soundness -/
theorem stepA_sound {P : Program} {N : Nat} {ops : List Oper} {Q : AQ} {G0 : Gh} {S0 : St} {w0 : World} {i : Nat} {o : Oper} {KA : AV → St → Prop} {Pan : AV → St → Prop} {env : Env} {S : St} {G : Gh} {a : Act} {w : World}
    {ds : List Deferred} {K : Act → World → Prop} (hds : a.defers = ds) (ho : ops[i]? = some o) (h : StepA P ops o KA Pan env S) (hE : EnvRel N G env a.tmps) (hI : Inv G S w) (hX : Ext G0 S0 w0 G S w) (hP : ∀ v S', Pan v S' → Q (.panic v) env S')
    (hK : ∀ v x S' G' w', KA v S' → RelA G' v x → Inv G' S' w' → Ext G0 S0 w0 G' S' w' → G.le G' → K (a.put o.dst x) w') :
    wpOp P ops.toArray (Post N G0 S0 w0 ds Q) i K a w := by
  have hoa : ops.toArray[i]? = some o := by simpa using ho
  subst hds
  unfold wpOp
  simp only [hoa]
  cases hw : wantedA ops env o with
  | none => rw [StepA, hw] at h; exact h.elim
  | some b =>
  rw [StepA, hw] at h
  rw [wantedA_sound hE hw]
  cases b with
  | false =>
    simp only [Bool.false_eq_true, if_false]
    exact hK _ _ _ G w h (undef_rel G) hI hX (.refl G)
  | true =>
    replace h : stepRes P KA Pan S (evalOp P o env S) := h
    simp only [if_true]
    left
    cases he : evalOp P o env S with
    | none => rw [he] at h; exact h.elim
    | some r =>
    rw [he] at h
    cases r with
    | val v cm =>
      obtain ⟨x, G', w', k1, k2, k3, k4⟩ := evalOp_sound (P := P) hI hE he
      simp only [Oper.wp, k1, Oper.upon]
      exact hK _ _ _ G' w' h k2 k3 (hX.trans k4) k4.le
    | skip cm =>
      obtain ⟨G', w', k1, k3, k4⟩ := evalOp_sound (P := P) hI hE he
      simp only [Oper.wp, k1, Oper.upon]
      exact hK _ _ _ G' w' h (undef_rel G') k3 (hX.trans k4) k4.le
    | call f args =>
      obtain ⟨vals, k1, k2⟩ := evalOp_sound (P := P) hI hE he
      have hc : Upon P f vals.toArray w (CPost G S w (contK KA Pan)) := h G vals w k2 hI
      simp only [Oper.wp, k1]
      have key : ∀ e w', CPost G S w (contK KA Pan) e w' →
          match e, w' with
          | .returned v, w'' => K (a.put o.dst v) w''
          | .panicked chain, w'' => Post N G0 S0 w0 a.defers Q (.panic chain) a w''
          | .outgrown, _ => LetsOut (Post N G0 S0 w0 a.defers Q) := by
        rintro e w' ⟨x, S', G', r1, r2, r3, r4⟩
        cases x with
        | ret v =>
          cases e with
          | returned y => exact hK _ _ _ G' w' r1 r2 r3 (hX.trans r4) r4.le
          | panicked ch => exact r2.elim
          | outgrown => exact r2.elim
        | panic v =>
          cases e with
          | returned y => exact r2.elim
          | panicked ch => exact ⟨.panic v, env, S', G', hP _ _ r1, r2, hE.mono r4.le, r3, hX.trans r4, rfl⟩
          | outgrown => exact r2.elim
      unfold Upon at hc
      split at hc
      · rename_i f' args' w' hrun
        rw [hrun]
        simp only [Oper.upon]
        exact Calls.mono hc key
      · rename_i v w' hrun
        rw [hrun]
        simp only [Oper.upon]
        exact key _ _ hc
      · exact hc.elim
    | pan v =>
      obtain ⟨x, k1, k2⟩ := evalOp_sound (P := P) hI hE he
      simp only [Oper.wp, k1, Oper.upon]
      exact ⟨.panic v, env, S, G, hP _ _ h, ⟨x, rfl, k2⟩, hE, hI, hX, rfl⟩
    | any l' =>
      obtain ⟨p, hp, x, G', w', k1, k2, k3, k4⟩ := evalOp_sound (P := P) hI hE he
      simp only [Oper.wp, k1, Oper.upon]
      exact hK _ _ _ G' w' (h p hp) k2 k3 (hX.trans k4) k4.le

theorem StepA.mono {P : Program} {ops : List Oper} {o : Oper} {KA KA' : AV → St → Prop} {Pan Pan' : AV → St → Prop} {env env' : Env} {S : St} (h : StepA P ops o KA Pan env S)
    (hl : ∀ t ∈ o.looksAt ops.toArray, env.get t = env'.get t) (hk : ∀ v S, KA v S → KA' v S) (hp : ∀ v S, Pan v S → Pan' v S) : StepA P ops o KA' Pan' env' S := by
  unfold StepA at *
  rw [← wantedA_congr hl]
  cases hw : wantedA ops env o with
  | none => rw [hw] at h; exact h.elim
  | some b =>
    rw [hw] at h
    cases b with
    | false => exact hk _ _ h
    | true =>
      simp only [stepA] at *
      rw [← evalOp_looks hl]
      cases he : evalOp P o env S with
      | none => rw [he] at h; exact h.elim
      | some r =>
        rw [he] at h
        cases r with
        | val v cm => exact hk _ _ h
        | skip cm => exact hk _ _ h
        | call f args =>
          refine WC.mono h fun x S' => ?_
          cases x with
          | ret v => exact hk _ _
          | panic v => exact hp _ _
        | pan v => exact hp _ _ h
        | any l => exact fun p hp => hk _ _ (h p hp)

theorem fval_step {P : Program} {ops : List Oper} {o : Oper} {env : Env} {S : St} {v : AV} {KA : AV → St → Prop} {Pan : AV → St → Prop} (h : FVal P ops o env S v) (hk : KA v S) : StepA P ops o KA Pan env S := by
  unfold StepA
  rcases h with ⟨h1, rfl⟩ | ⟨h1, h2⟩
  · rw [h1]; exact hk
  · rw [h1]
    show stepRes P KA Pan S (evalOp P o env S)
    unfold Yields at h2
    split at h2
    · rename_i u he
      subst h2
      rw [he]; exact hk
    · rename_i f args he
      rw [he]
      refine WC.mono h2 fun x T => ?_
      rintro ⟨rfl, rfl⟩
      exact hk
    · exact h2.elim

theorem yields_pure {P : Program} {o : Oper} {env : Env} {S S' : St} {v : AV} (h : pureOp o.op = true) (k : Yields P v S (evalOp P o env S)) : Yields P v S' (evalOp P o env S') := by
  rw [evalOp_pure (S := S') (S' := S) h]
  cases he : evalOp P o env S with
  | none => rw [he] at k; exact k.elim
  | some r =>
    rw [he] at k
    cases r with
    | call f args => exact absurd rfl (pureOp_val h he f args)
    | val u cm =>
      cases cm with
      | nil => exact k
      | cons c r => exact k.elim
    | _ => exact k.elim

theorem FVal.congr {P : Program} {ops : List Oper} {o : Oper} {env env' : Env} {S : St} {v : AV} (h : FVal P ops o env S v) (hl : ∀ t ∈ o.looksAt ops.toArray, env.get t = env'.get t) : FVal P ops o env' S v := by
  unfold FVal at *
  rwa [← wantedA_congr hl, ← evalOp_looks hl]

/-! #### The facts that a good plan's text gives -/
theorem opAt_spec {ops : Array Oper} {i : Nat} {p : Oper → Bool} (h : opAt ops i p = true) : ∃ o, ops[i]? = some o ∧ p o = true := by
  unfold opAt at h
  split at h
  · exact ⟨_, ‹_›, h⟩
  · cases h

theorem predsIn_spec {L : List Nat} {o : Oper} : predsIn L o = true ↔ ∀ i ∈ preds o, i ∈ L := by
  simp [predsIn]

theorem mem_preds {o : Oper} {i : Nat} : i ∈ preds o ↔ ∃ e ∈ o.after, Region.binds .any e = true ∧ e.on = i := by
  simp [preds, and_assoc]

structure Pairs (ops : List Oper) (ch : List Nat) : Prop where
  self : ∀ (i : Nat) (o : Oper) (d : Tmp), ops[i]? = some o → o.dst = some d → i ∉ ch → d ∉ o.looksAt ops.toArray
  dst : ∀ (i j : Nat) (x y : Oper) (d : Tmp), i ≠ j → ops[i]? = some x → ops[j]? = some y → x.dst = some d → y.dst ≠ some d
  looks : ∀ (i j : Nat) (x y : Oper) (d : Tmp), i ≠ j → ops[i]? = some x → ops[j]? = some y → x.dst = some d → i ∈ preds y ∨ d ∉ y.looksAt ops.toArray ∨ (j ∈ preds x ∧ i ∈ ch)

theorem pairsOk_spec {ops : List Oper} {ch : List Nat} (h : pairsOk ops.toArray ch = true) : Pairs ops ch := by
  have h' : ∀ i j, i < ops.length → j < ops.length → pairOk ops.toArray ch i j = true := by
    intro i j hi hj
    simp only [pairsOk, List.all_eq_true, List.mem_range, List.size_toArray] at h
    exact h i hi j hj
  have lt : ∀ {i : Nat} {o : Oper}, ops[i]? = some o → i < ops.length := fun h => (List.getElem?_eq_some_iff.1 h).1
  refine ⟨fun i o d ho hd hc => ?_, fun i j x y d hne hx hy hd => ?_, fun i j x y d hne hx hy hd => ?_⟩
  · have := h' i i (lt ho) (lt ho)
    simpa [pairOk, ho, hd, hc] using this
  · have := h' i j (lt hx) (lt hy)
    simp [pairOk, hx, hy, hd, beq_ne hne] at this
    exact this.1
  · have := h' i j (lt hx) (lt hy)
    simp [pairOk, hx, hy, hd, beq_ne hne] at this
    rcases this.2 with (h1 | h1) | h1
    · exact .inl h1
    · exact .inr (.inl h1)
    · exact .inr (.inr h1)

/-- The numbers that a plan has been through, each behind what it waits for. -/
inductive Topo (ops : List Oper) : List Nat → Prop
  | nil : Topo ops []
  | cons {i : Nat} {L : List Nat} {o : Oper} (ho : ops[i]? = some o) (hp : ∀ j ∈ preds o, j ∈ L) (hi : i ∉ L) (h : Topo ops L) : Topo ops (i :: L)

theorem Topo.mem {ops : List Oper} {L : List Nat} (h : Topo ops L) {i : Nat} (hi : i ∈ L) : ∃ o, ops[i]? = some o ∧ ∀ j ∈ preds o, j ∈ L := by
  induction h with
  | nil => simp at hi
  | cons ho hp _ _ ih =>
    rcases List.mem_cons.1 hi with rfl | hi
    · exact ⟨_, ho, fun j hj => List.mem_cons_of_mem _ (hp j hj)⟩
    · obtain ⟨o, h1, h2⟩ := ih hi
      exact ⟨o, h1, fun j hj => List.mem_cons_of_mem _ (h2 j hj)⟩

/-- Of what has been put off, something waits for nothing that has been put off. -/
theorem Topo.first {ops : List Oper} {L : List Nat} (h : Topo ops L) : ∀ (p : Nat → Prop), (∃ i ∈ L, p i) → ∃ i ∈ L, p i ∧ ∃ o, ops[i]? = some o ∧ ∀ j ∈ preds o, j ∈ L ∧ ¬ p j := by
  induction h with
  | nil => rintro p ⟨i, hi, _⟩; simp at hi
  | @cons i L o ho hp hn hL ih =>
    intro p hex
    by_cases h : ∃ k ∈ L, p k
    · obtain ⟨k, hk, pk, o', ho', hpre⟩ := ih p h
      exact ⟨k, List.mem_cons_of_mem _ hk, pk, o', ho', fun j hj => ⟨List.mem_cons_of_mem _ (hpre j hj).1, (hpre j hj).2⟩⟩
    · obtain ⟨k, hk, pk⟩ := hex
      rcases List.mem_cons.1 hk with rfl | hk
      · exact ⟨k, by simp, pk, o, ho, fun j hj => ⟨List.mem_cons_of_mem _ (hp j hj), fun pj => h ⟨j, hp j hj, pj⟩⟩⟩
      · exact absurd ⟨k, hk, pk⟩ h

/-! #### The road of a plan, and the road that is taken -/
structure Sim (P : Program) (N : Nat) (ops : List Oper) (ch L : List Nat) (listed : Array Bool) (pend : Nat → Prop) (e e' : Env) (S : St) : Prop where
  size : listed.size = ops.length
  topo : Topo ops L
  sub : ∀ i, pend i → i ∈ L ∧ i ∉ ch
  act : ∀ i, i < ops.length → (listed.getD i false = true ↔ i ∈ L ∧ ¬ pend i)
  env : ∀ t, (∀ f o, pend f → ops[f]? = some o → o.dst ≠ some t) → e'.get t = e.get t
  val : ∀ f, pend f → ∃ o d, ops[f]? = some o ∧ o.dst = some d ∧ d < N ∧ FVal P ops o e S (e.get d)

theorem lookLt {ops : List Oper} {i : Nat} {o : Oper} (h : ops[i]? = some o) : i < ops.length := (List.getElem?_eq_some_iff.1 h).1

theorem ready_iff {ops : List Oper} {listed : Array Bool} {j : Nat} (hs : listed.size = ops.length) : j ∈ Region.ready .any ops.toArray listed ↔
    listed.getD j false = false ∧ ∃ o, ops[j]? = some o ∧ ∀ i ∈ preds o, listed.getD i false = true := by
  rw [mem_ready]
  constructor
  · rintro ⟨h1, o, ho, h2⟩
    refine ⟨?_, o, by simpa using ho, ?_⟩
    · rw [Array.getD_eq_getD_getElem?] at h1 ⊢
      cases h : listed[j]? with
      | none => rfl
      | some b => rw [h] at h1; exact h1
    · intro i hi
      obtain ⟨e, he, hb, rfl⟩ := mem_preds.1 hi
      exact h2 e he hb
  · rintro ⟨h1, o, ho, h2⟩
    refine ⟨?_, o, by simpa using ho, fun e he hb => h2 _ (mem_preds.2 ⟨e, he, hb, rfl⟩)⟩
    have hlt : j < listed.size := by rw [hs]; exact lookLt ho
    rw [Array.getD_eq_getD_getElem?] at h1 ⊢
    simp [hlt] at h1 ⊢
    exact h1

/-- What is ready and has not been put off looks at nothing that has been put off. -/
theorem Sim.looks {P : Program} {N : Nat} {ops : List Oper} {ch L : List Nat} {listed : Array Bool} {pend : Nat → Prop} {e e' : Env} {S : St} (h : Sim P N ops ch L listed pend e e' S) (hp : Pairs ops ch) {j : Nat} {o : Oper}
    (ho : ops[j]? = some o) (hr : ∀ i ∈ preds o, listed.getD i false = true) (hj : pend j ∨ j ∉ L) : ∀ t ∈ o.looksAt ops.toArray, e.get t = e'.get t := by
  intro t ht
  refine (h.env t fun f x pf hx hd => ?_).symm
  by_cases hfj : f = j
  · subst hfj
    have e1 : x = o := by rw [hx] at ho; exact Option.some.inj ho
    exact hp.self f x t hx hd (h.sub f pf).2 (by rw [e1]; exact ht)
  · rcases hp.looks f j x o t hfj hx ho hd with h1 | h1 | ⟨h1, h2⟩
    · have := hr f h1
      exact ((h.act f (lookLt hx)).1 this).2 pf
    · exact h1 ht
    · exact (h.sub f pf).2 h2

theorem getD_set {listed : Array Bool} {i j : Nat} (hi : i < listed.size) : (listed.setIfInBounds i true).getD j false = if i = j then true else listed.getD j false := by
  simp only [Array.getD_eq_getD_getElem?, Array.getElem?_setIfInBounds]
  split
  · simp [hi]
  · rfl

theorem setO_get {env : Env} {d t : Nat} {v : AV} : (env.setO (some d) v).get t = if d = t then v else env.get t := Env.get_set env d t v

theorem stab_spec {P : Program} {ops : List Oper} {env : Env} {S : St} : ∀ {l : List Nat}, stab P ops env S l → ∀ i ∈ l, stabOne P ops env S i
  | [], _, i, hi => by simp at hi
  | k :: r, h, i, hi => by
    rcases List.mem_cons.1 hi with rfl | hi
    · exact h.1
    · exact stab_spec h.2 i hi

/-- What has been put off reads the same behind a write to what it does not look at. -/
theorem FVal.set {P : Program} {ops : List Oper} {o : Oper} {env : Env} {S : St} {v u : AV} {d : Tmp} (h : FVal P ops o env S v) (hd : d ∉ o.looksAt ops.toArray) : FVal P ops o (env.setO (some d) u) S v :=
  h.congr fun t ht => by
    rw [setO_get, if_neg]
    intro e
    exact hd (by rw [e]; exact ht)

theorem plan_sound {P : Program} {N : Nat} {ops : List Oper} {Q : AQ} {ch : List Nat} (hp : Pairs ops ch) {G0 : Gh} {S0 : St} {w0 : World} {ds : List Deferred} :
    ∀ (fuel : Nat) (pl : Plan) (L U : List Nat) (e e' : Env) (S : St) (pend : Nat → Prop) (listed : Array Bool) (G : Gh) (a : Act) (w : World),
    okPlan ops.toArray ch L [] pl = true → WPlan P N ops Q pl e S → Sim P N ops ch L listed pend e e' S → EnvRel N G e' a.tmps → Inv G S w → Ext G0 S0 w0 G S w → a.defers = ds →
    U.length ≤ fuel → (∀ i, i < ops.length → listed.getD i false = false → i ∈ U) → wpAny P .any ops.toArray (Post N G0 S0 w0 ds Q) fuel listed a w := by
  intro fuel
  -- the end
  have fin : ∀ (pl : Plan) (L : List Nat) (e e' : Env) (S : St) (pend : Nat → Prop) (listed : Array Bool) (G : Gh) (a : Act) (w : World),
      okPlan ops.toArray ch L [] pl = true → WPlan P N ops Q pl e S → Sim P N ops ch L listed pend e e' S → EnvRel N G e' a.tmps → Inv G S w → Ext G0 S0 w0 G S w → a.defers = ds →
      Region.ready .any ops.toArray listed = [] → Post N G0 S0 w0 ds Q .normal a w := by
    intro pl L e e' S pend listed G a w hok hW hS hE hI hX hds hr
    have no : ∀ j, j ∉ Region.ready .any ops.toArray listed := fun j => by rw [hr]; simp
    have nopend : ¬ ∃ i ∈ L, pend i := by
      intro hex
      obtain ⟨i, hi, pi, o, ho, hpre⟩ := hS.topo.first pend hex
      refine no i ((ready_iff hS.size).2 ⟨?_, o, ho, fun k hk => ?_⟩)
      · cases hb : listed.getD i false with
        | false => rfl
        | true => exact absurd pi ((hS.act i (lookLt ho)).1 hb).2
      · obtain ⟨ok, hok, _⟩ := hS.topo.mem (hpre k hk).1
        exact (hS.act k (lookLt hok)).2 ⟨(hpre k hk).1, (hpre k hk).2⟩
    have nop : ∀ i, ¬ pend i := fun i pi => nopend ⟨i, (hS.sub i pi).1, pi⟩
    have nonode : ∀ i o, i ∉ L → ops[i]? = some o → (∀ k ∈ preds o, k ∈ L) → False := by
      intro i o hi ho hk
      refine no i ((ready_iff hS.size).2 ⟨?_, o, ho, fun k hk' => ?_⟩)
      · cases hb : listed.getD i false with
        | false => rfl
        | true => exact absurd ((hS.act i (lookLt ho)).1 hb).1 hi
      · obtain ⟨ok, hok, _⟩ := hS.topo.mem (hk k hk')
        exact (hS.act k (lookLt hok)).2 ⟨hk k hk', nop k⟩
    have he : e' = e := funext fun t => hS.env t fun f o pf => absurd pf (nop f)
    subst he
    cases pl with
    | done => exact ⟨.normal, e', S, G, hW, trivial, hE, hI, hX, hds⟩
    | op i next =>
      simp only [okPlan, Bool.and_eq_true, Bool.not_eq_true', List.contains_eq_mem, decide_eq_false_iff_not] at hok
      obtain ⟨⟨⟨h1, h2⟩, _⟩, _⟩ := hok
      obtain ⟨o, ho, h3⟩ := opAt_spec h2
      simp only [Bool.and_eq_true] at h3
      exact (nonode i o h1 (by simpa using ho) (predsIn_spec.1 h3.1)).elim
    | step i chk next alt =>
      simp only [okPlan, Bool.and_eq_true, Bool.not_eq_true', List.contains_eq_mem, decide_eq_false_iff_not] at hok
      obtain ⟨⟨⟨⟨h1, h2⟩, _⟩, _⟩, _⟩ := hok
      obtain ⟨o, ho, h3⟩ := opAt_spec h2
      simp only [Bool.and_eq_true] at h3
      exact (nonode i o h1 (by simpa using ho) (predsIn_spec.1 h3.1)).elim
  induction fuel with
  | zero =>
    intro pl L U e e' S pend listed G a w hok hW hS hE hI hX hds hU hUl
    have hr : Region.ready .any ops.toArray listed = [] := by
      cases hr : Region.ready .any ops.toArray listed with
      | nil => rfl
      | cons j r =>
        have hj : j ∈ Region.ready .any ops.toArray listed := by rw [hr]; simp
        obtain ⟨h1, o, ho, _⟩ := (ready_iff hS.size).1 hj
        have := hUl j (lookLt ho) h1
        have hU0 : U = [] := List.eq_nil_of_length_eq_zero (by omega)
        rw [hU0] at this; simp at this
    exact ⟨hr, fin pl L e e' S pend listed G a w hok hW hS hE hI hX hds hr⟩
  | succ fuel IH =>
    intro pl L U e e' S pend listed G a w hok hW hS hE hI hX hds hU hUl
    refine ⟨fin pl L e e' S pend listed G a w hok hW hS hE hI hX hds, fun j hj => ?_⟩
    obtain ⟨hlj, o, ho, hpre⟩ := (ready_iff hS.size).1 hj
    have hjlt : j < ops.length := lookLt ho
    have hsz : ∀ {l : Array Bool}, l.size = ops.length → (l.setIfInBounds j true).size = ops.length := fun h => by simpa using h
    have hjU : j ∈ U := hUl j hjlt hlj
    have hU' : (U.erase j).length ≤ fuel := by rw [List.length_erase_of_mem hjU]; omega
    have hUl' : ∀ i, i < ops.length → (listed.setIfInBounds j true).getD i false = false → i ∈ U.erase j := by
      intro i hi h
      rw [getD_set (by rw [hS.size]; exact hjlt)] at h
      split at h
      · cases h
      · rename_i hne
        exact (List.mem_erase_of_ne (fun e => hne e.symm)).2 (hUl i hi h)
    have hget : ∀ i, (listed.setIfInBounds j true).getD i false = if j = i then true else listed.getD i false := fun i => getD_set (by rw [hS.size]; exact hjlt)
    by_cases hpj : pend j
    · -- it had been put off
      obtain ⟨o', d, ho', hd, hdN, hv⟩ := hS.val j hpj
      obtain rfl : o' = o := by rw [ho'] at ho; exact Option.some.inj ho
      have hst : StepA P ops o' (fun v S' => v = e.get d ∧ S' = S) (fun _ _ => False) e' S :=
        (fval_step hv ⟨rfl, rfl⟩).mono (hS.looks hp ho' hpre (.inl hpj)) (fun _ _ h => h) (fun _ _ h => h)
      refine stepA_sound hds ho' hst hE hI hX (fun _ _ h => h.elim) ?_
      rintro v x S' G' w' ⟨rfl, rfl⟩ hx hI' hX' hle
      refine IH pl L (U.erase j) e (e'.setO o'.dst (e.get d)) S' (fun i => pend i ∧ i ≠ j) _ G' _ w' hok hW ?_ ((hE.mono hle).put (by rw [hd]; exact hdN) hx) hI' hX' (by rw [put_defers]; exact hds) hU' hUl'
      refine ⟨hsz hS.size, hS.topo, fun i hi => hS.sub i hi.1, fun i hi => ?_, fun t ht => ?_, fun f hf => hS.val f hf.1⟩
      · rw [hget]
        by_cases hji : j = i
        · subst hji; simp [(hS.sub j hpj).1]
        · rw [if_neg hji, hS.act i hi]
          constructor
          · rintro ⟨h1, h2⟩; exact ⟨h1, fun h => h2 h.1⟩
          · rintro ⟨h1, h2⟩; exact ⟨h1, fun h => h2 ⟨h, fun e => hji e.symm⟩⟩
      · rw [hd, setO_get]
        by_cases hdt : d = t
        · rw [if_pos hdt, hdt]
        · rw [if_neg hdt]
          refine hS.env t fun f of pf hof => ?_
          by_cases hfj : f = j
          · subst hfj
            obtain rfl : of = o' := by rw [hof] at ho'; exact Option.some.inj ho'
            rw [hd]; exact fun h => hdt (Option.some.inj h)
          · exact ht f of ⟨pf, hfj⟩ hof
    · -- the plan has not been there yet
      have hjL : j ∉ L := fun h => by
        have := (hS.act j hjlt).2 ⟨h, hpj⟩
        rw [hlj] at this; cases this
      have main : ∀ (pl : Plan) (L fs : List Nat) (e : Env) (pend : Nat → Prop), okPlan ops.toArray ch L fs pl = true → WPlan P N ops Q pl e S → Sim P N ops ch L listed pend e e' S → j ∉ L → j ∉ fs →
          wpOp P ops.toArray (Post N G0 S0 w0 ds Q) j (wpAny P .any ops.toArray (Post N G0 S0 w0 ds Q) fuel (listed.setIfInBounds j true)) a w := by
        intro pl
        induction pl with
        | done =>
          intro L fs e pend hok hW hS hjL hfs
          simp only [okPlan, List.all_eq_true, List.mem_range, List.contains_eq_mem, decide_eq_true_eq, List.size_toArray] at hok
          exact absurd (hok j hjlt) hjL
        | op i next ih =>
          intro L fs e pend hok hW hS hjL hfs
          simp only [okPlan, Bool.and_eq_true, Bool.not_eq_true', List.contains_eq_mem, decide_eq_false_iff_not] at hok
          obtain ⟨⟨⟨h1, h2⟩, hich⟩, hnext⟩ := hok
          obtain ⟨oi, hoi, h3⟩ := opAt_spec h2
          replace hoi : ops[i]? = some oi := by simpa using hoi
          simp only [Bool.and_eq_true] at h3
          obtain ⟨h3, hdi⟩ := h3
          obtain ⟨d, hd⟩ := Option.isSome_iff_exists.1 hdi
          have hpi := predsIn_spec.1 h3
          simp only [WPlan, hoi] at hW
          obtain ⟨hdN, hW⟩ := hW
          have hv : ∃ v, FVal P ops oi e S v ∧ WPlan P N ops Q next (e.setO oi.dst v) S := by
            cases hw : wantedA ops e oi with
            | none => rw [hw] at hW; exact hW.elim
            | some b =>
              rw [hw] at hW
              cases b with
              | false => exact ⟨_, .inl ⟨hw, rfl⟩, hW⟩
              | true =>
                replace hW : opRes P (WPlan P N ops Q next) e S oi.dst (evalOp P oi e S) := hW
                unfold opRes at hW
                split at hW
                · rename_i v he; exact ⟨v, .inr ⟨hw, by rw [he]; rfl⟩, hW⟩
                · rename_i f args he
                  obtain ⟨v, hc, hW⟩ := hW
                  exact ⟨v, .inr ⟨hw, by rw [he]; exact hc⟩, hW⟩
                · exact hW.elim
          obtain ⟨v, hv, hWn⟩ := hv
          -- what has been put off before stays what it is
          have hold : ∀ f of df, pend f → ops[f]? = some of → of.dst = some df → FVal P ops of e S (e.get df) → df ≠ d ∧ FVal P ops of (e.setO (some d) v) S ((e.setO (some d) v).get df) := by
            intro f of df pf hof hdf hvf
            have hfL := (hS.sub f pf).1
            have hfi : i ≠ f := fun h => h1 (h ▸ hfL)
            have hne : df ≠ d := fun h => hp.dst i f oi of d hfi hoi hof hd (h ▸ hdf)
            refine ⟨hne, ?_⟩
            rw [setO_get, if_neg (fun h => hne h.symm)]
            refine hvf.set ?_
            rcases hp.looks i f oi of d hfi hoi hof hd with h | h | ⟨_, h⟩
            · obtain ⟨of', hof', hpre'⟩ := hS.topo.mem hfL
              obtain rfl : of' = of := by rw [hof'] at hof; exact Option.some.inj hof
              exact absurd (hpre' i h) h1
            · exact h
            · exact absurd h hich
          by_cases hij : i = j
          · subst hij
            obtain rfl : oi = o := by rw [hoi] at ho; exact Option.some.inj ho
            have hst : StepA P ops oi (fun u S' => u = v ∧ S' = S) (fun _ _ => False) e' S :=
              (fval_step hv ⟨rfl, rfl⟩).mono (hS.looks hp hoi hpre (.inr h1)) (fun _ _ h => h) (fun _ _ h => h)
            refine stepA_sound hds hoi hst hE hI hX (fun _ _ h => h.elim) ?_
            rintro u x S' G' w' ⟨rfl, rfl⟩ hx hI' hX' hle
            refine IH next (i :: L) (U.erase i) (e.setO oi.dst u) (e'.setO oi.dst u) S' pend _ G' _ w' hnext hWn ?_ ((hE.mono hle).put hdN hx) hI' hX' (by rw [put_defers]; exact hds) hU' hUl'
            refine ⟨hsz hS.size, .cons hoi hpi h1 hS.topo, fun k hk => ⟨List.mem_cons_of_mem _ (hS.sub k hk).1, (hS.sub k hk).2⟩, fun k hk => ?_, fun t ht => ?_, fun f hf => ?_⟩
            · rw [hget]
              by_cases hik : i = k
              · subst hik
                simp only [if_true, List.mem_cons, true_or, true_and, true_iff]
                exact fun h => h1 (hS.sub i h).1
              · rw [if_neg hik, hS.act k hk, List.mem_cons]
                constructor
                · rintro ⟨h, h'⟩; exact ⟨.inr h, h'⟩
                · rintro ⟨h | h, h'⟩
                  · exact absurd h.symm hik
                  · exact ⟨h, h'⟩
            · rw [hd, setO_get, setO_get]
              split
              · rfl
              · exact hS.env t ht
            · obtain ⟨of, df, hof, hdf, hdfN, hvf⟩ := hS.val f hf
              obtain ⟨_, k2⟩ := hold f of df hf hof hdf hvf
              rw [hd]
              exact ⟨of, df, hof, hdf, hdfN, k2⟩
          · refine ih (i :: L) [] (e.setO oi.dst v) (fun k => pend k ∨ k = i) hnext hWn ?_ (by simp [hjL]; exact fun h => hij h.symm) (by simp)
            refine ⟨hS.size, .cons hoi hpi h1 hS.topo, ?_, fun k hk => ?_, fun t ht => ?_, ?_⟩
            · rintro k (hk | rfl)
              · exact ⟨List.mem_cons_of_mem _ (hS.sub k hk).1, (hS.sub k hk).2⟩
              · exact ⟨by simp, hich⟩
            · rw [hS.act k hk, List.mem_cons]
              constructor
              · rintro ⟨h, h'⟩
                exact ⟨.inr h, fun hh => hh.elim h' (fun hh => h1 (hh ▸ h))⟩
              · rintro ⟨h | h, h'⟩
                · exact absurd (.inr h) h'
                · exact ⟨h, fun hh => h' (.inl hh)⟩
            · rw [hd, setO_get, if_neg (fun h => ht i oi (.inr rfl) hoi (by rw [hd, h]))]
              exact hS.env t fun f of pf => ht f of (.inl pf)
            · rintro f (hf | rfl)
              · obtain ⟨of, df, hof, hdf, hdfN, hvf⟩ := hS.val f hf
                obtain ⟨_, k2⟩ := hold f of df hf hof hdf hvf
                rw [hd]
                exact ⟨of, df, hof, hdf, hdfN, k2⟩
              · refine ⟨oi, d, hoi, hd, by rw [hd] at hdN; exact hdN, ?_⟩
                rw [hd, setO_get, if_pos rfl]
                exact hv.set (hp.self f oi d hoi hd hich)
        | step i chk next alt ih1 ih2 =>
          intro L fs e pend hok hW hS hjL hfs
          simp only [okPlan, Bool.and_eq_true, Bool.not_eq_true', List.contains_eq_mem, decide_eq_false_iff_not] at hok
          obtain ⟨⟨⟨⟨h1, h2⟩, hich⟩, hnext⟩, halt⟩ := hok
          obtain ⟨oi, hoi, h3⟩ := opAt_spec h2
          replace hoi : ops[i]? = some oi := by simpa using hoi
          simp only [Bool.and_eq_true] at h3
          obtain ⟨h3, hchk⟩ := h3
          have hpi := predsIn_spec.1 h3
          simp only [WPlan, hoi] at hW
          obtain ⟨hWalt, hdN, hst⟩ := hW
          by_cases hij : i = j
          · subst hij
            obtain rfl : oi = o := by rw [hoi] at ho; exact Option.some.inj ho
            refine stepA_sound hds hoi (hst.mono (hS.looks hp hoi hpre (.inr h1)) (fun _ _ h => h) (fun _ _ h => h)) hE hI hX (fun v S' h => h e') ?_
            rintro v x S' G' w' ⟨hstab, hWn⟩ hx hI' hX' hle
            refine IH next (i :: L) (U.erase i) (e.setO oi.dst v) (e'.setO oi.dst v) S' pend _ G' _ w' hnext hWn ?_ ((hE.mono hle).put hdN hx) hI' hX' (by rw [put_defers]; exact hds) hU' hUl'
            refine ⟨hsz hS.size, .cons hoi hpi h1 hS.topo, fun k hk => ⟨List.mem_cons_of_mem _ (hS.sub k hk).1, (hS.sub k hk).2⟩, fun k hk => ?_, fun t ht => ?_, fun f hf => ?_⟩
            · rw [hget]
              by_cases hik : i = k
              · subst hik
                simp only [if_true, List.mem_cons, true_or, true_and, true_iff]
                exact fun h => h1 (hS.sub i h).1
              · rw [if_neg hik, hS.act k hk, List.mem_cons]
                constructor
                · rintro ⟨h, h'⟩; exact ⟨.inr h, h'⟩
                · rintro ⟨h | h, h'⟩
                  · exact absurd h.symm hik
                  · exact ⟨h, h'⟩
            · cases hd : oi.dst with
              | none => exact hS.env t ht
              | some d =>
                rw [setO_get, setO_get]
                split
                · rfl
                · exact hS.env t ht
            · obtain ⟨of, df, hof, hdf, hdfN, hvf⟩ := hS.val f hf
              obtain ⟨hfL, hfch⟩ := hS.sub f hf
              have hif : i ≠ f := fun h => h1 (h ▸ hfL)
              have hfp : f ∉ preds oi := fun h => ((hS.act f (lookLt hof)).1 (hpre f h)).2 hf
              have hl : ∀ t ∈ of.looksAt ops.toArray, e.get t = (e.setO oi.dst v).get t := by
                intro t ht
                cases hd : oi.dst with
                | none => rfl
                | some d =>
                  rw [setO_get, if_neg]
                  intro hdt
                  subst hdt
                  rcases hp.looks i f oi of d hif hoi hof hd with h | h | ⟨h, _⟩
                  · obtain ⟨of', hof', hpre'⟩ := hS.topo.mem hfL
                    obtain rfl : of' = of := by rw [hof'] at hof; exact Option.some.inj hof
                    exact h1 (hpre' i h)
                  · exact h ht
                  · exact hfp h
              have hg : (e.setO oi.dst v).get df = e.get df := by
                cases hd : oi.dst with
                | none => rfl
                | some d => rw [setO_get, if_neg (fun h => hp.dst i f oi of d hif hoi hof hd (by rw [h]; exact hdf))]
              refine ⟨of, df, hof, hdf, hdfN, ?_⟩
              rw [hg]
              have hv2 := hvf.congr hl
              have hsel := List.all_eq_true.1 hchk f hfL
              simp only [Bool.or_eq_true, List.contains_eq_mem, decide_eq_true_eq] at hsel
              rcases hsel with ((h | h) | h) | h
              · exact absurd h hfch
              · obtain ⟨of', hof', hpu⟩ := opAt_spec h
                obtain rfl : of' = of := by rw [show ops[f]? = some of' by simpa using hof'] at hof; exact Option.some.inj hof
                rcases hv2 with h | ⟨k1, k2⟩
                · exact .inl h
                · exact .inr ⟨k1, yields_pure hpu k2⟩
              · exact absurd h hfp
              · have hso := stab_spec hstab f h
                simp only [stabOne, hof, hdf, hg] at hso
                rcases hv2 with h | ⟨k1, k2⟩
                · exact .inl h
                · rcases hso with h | h
                  · rw [k1] at h; cases h
                  · exact .inr ⟨k1, h⟩
          · cases hd : alt.isDone with
            | true =>
              rw [hd, cond_true] at halt
              have := List.all_eq_true.1 halt j (by simpa using hjlt)
              simp only [Bool.or_eq_true, List.contains_eq_mem, decide_eq_true_eq, List.mem_cons, Bool.not_eq_true'] at this
              rcases this with (h | h | h) | h
              · exact absurd h hjL
              · exact absurd h.symm hij
              · exact absurd h hfs
              · unfold opAt at h
                have hoa : ops.toArray[j]? = some o := by simpa using ho
                rw [hoa] at h
                simp only at h
                have : predsIn L o = true := predsIn_spec.2 fun k hk => ((hS.act k (by
                  have := hpre k hk
                  rcases Nat.lt_or_ge k listed.size with h | h
                  · rw [← hS.size]; exact h
                  · rw [Array.getD_eq_getD_getElem?, Array.getElem?_eq_none h] at this; cases this)).1 (hpre k hk)).1
                rw [this] at h; cases h
            | false =>
              rw [hd, cond_false, Bool.and_eq_true] at halt
              rw [hd] at hWalt
              exact ih2 L (i :: fs) e pend halt.2 (hWalt.resolve_left (by simp)) hS hjL (by simp [hfs]; exact fun h => hij h.symm)
      exact main pl L [] e pend hok hW hS hjL (by simp)

/-- A region whose order is open, by a plan. -/
theorem wdraw_plan {P : Program} {N id : Nat} {ops : Array Oper} {Q : AQ} {env : Env} {S : St} (ch : List Nat) (pl : Plan) (hm : P.follows .mixedOrders = true) (h1 : pairsOk ops ch = true) (h2 : okPlan ops ch [] [] pl = true)
    (h : WPlan P N ops.toList Q pl env S) : WDraw P N id ops Q env S := by
  intro G a w hE hI
  refine wp_region_any hm ?_
  refine plan_sound (ops := ops.toList) (pairsOk_spec (by simpa using h1)) ops.size pl [] (List.range ops.size) env env S (fun _ => False) _ G a _ (by simpa using h2) h ?_ hE hI.drew (.drew G S w) rfl (by simp) (fun i hi _ => by simpa using hi)
  refine ⟨by simp, .nil, fun i h => h.elim, fun i hi => ?_, fun t _ => rfl, fun f h => h.elim⟩
  have : i < ops.size := by simpa using hi
  simp [Array.getD_eq_getD_getElem?, this]

end Go.Abs
