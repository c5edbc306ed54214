/-
  The abstract machine, part S: code, regions in the order of the text, loops, calls.
-/
import Derived.Test.YtnnbhfoimaodhaaAbsR
namespace Go.Abs
set_option linter.unusedVariables false
set_option linter.unusedSimpArgs false

/-- How code is left. -/
inductive AX where
  | normal
  | exit (id : Nat)
  | ret
  | panic (v : AV)

def XRel (G : Gh) : AX → Exit → Prop
  | .normal, .normal => True
  | .exit i, .exit j => i = j
  | .ret, .ret => True
  | .panic v, .panic ch => ∃ x, ch = [{ v := x, recovered := false }] ∧ RelA G v x
  | _, _ => False

theorem XRel.mono {G G' : Gh} (hG : G.le G') {x : AX} {e : Exit} (h : XRel G x e) : XRel G' x e := by
  cases x <;> cases e <;> first | exact h | exact h.elim | (obtain ⟨y, h1, h2⟩ := h; exact ⟨y, h1, h2.mono hG⟩)

abbrev AQ := AX → Env → St → Prop

/-- A post on the abstract side, held against one of the model's. -/
def Post (N : Nat) (G : Gh) (S : St) (w : World) (ds : List Deferred) (Q : AQ) (e : Exit) (a : Act) (w' : World) : Prop :=
  ∃ x env' S' G', Q x env' S' ∧ XRel G' x e ∧ EnvRel N G' env' a.tmps ∧ Inv G' S' w' ∧ Ext G S w G' S' w' ∧ a.defers = ds

theorem Post.trans {N : Nat} {G G1 : Gh} {S S1 : St} {w w1 : World} {ds : List Deferred} {Q : AQ} {e : Exit} {a : Act} {w' : World} (h : Ext G S w G1 S1 w1) (k : Post N G1 S1 w1 ds Q e a w') :
    Post N G S w ds Q e a w' := by
  obtain ⟨x, env', S', G', h1, h2, h3, h4, h5, h6⟩ := k
  exact ⟨x, env', S', G', h1, h2, h3, h4, h.trans h5, h6⟩

/-- Code, from an abstract state. -/
def W (P : Program) (N : Nat) (c : Code) (Q : AQ) (env : Env) (S : St) : Prop :=
  ∀ G a w, EnvRel N G env a.tmps → Inv G S w → c.wp P (Post N G S w a.defers Q) a w

/-- How a call ends. -/
inductive CX where
  | ret (v : AV)
  | panic (v : AV)

def CRel (G : Gh) : CX → Ending → Prop
  | .ret v, .returned x => RelA G v x
  | .panic v, .panicked ch => ∃ x, ch = [{ v := x, recovered := false }] ∧ RelA G v x
  | _, _ => False

def CPost (G : Gh) (S : St) (w : World) (R : CX → St → Prop) (e : Ending) (w' : World) : Prop :=
  ∃ x S' G', R x S' ∧ CRel G' x e ∧ Inv G' S' w' ∧ Ext G S w G' S' w'

/-- What the model does at a call of a function. -/
def Upon (P : Program) (f : FuncId) (vals : Array Value) (w : World) (K : Ending → World → Prop) : Prop :=
  match Sem.run P (callFunc f vals) w with
  | .ok (.enter f' args) w' => Calls P f' args w' K
  | .ok (.value v) w' => K (.returned v) w'
  | _ => False

/-- A call, from an abstract state. -/
def WC (P : Program) (f : FuncId) (args : List AV) (R : CX → St → Prop) (S : St) : Prop :=
  ∀ G (vals : List Value) w, RelL G args vals → Inv G S w → Upon P f vals.toArray w (CPost G S w R)

theorem Upon.mono {P : Program} {f : FuncId} {vals : Array Value} {w : World} {K K' : Ending → World → Prop} (h : Upon P f vals w K) (hk : ∀ e w', K e w' → K' e w') : Upon P f vals w K' := by
  unfold Upon at *
  split at h
  · exact Calls.mono h hk
  · exact hk _ _ h
  · exact h.elim

theorem WC.mono {P : Program} {f : FuncId} {args : List AV} {R R' : CX → St → Prop} {S : St} (h : WC P f args R S) (hr : ∀ x S', R x S' → R' x S') : WC P f args R' S :=
  fun G vals w h1 h2 => (h G vals w h1 h2).mono fun e w' ⟨x, S', G', k1, k2, k3, k4⟩ => ⟨x, S', G', hr _ _ k1, k2, k3, k4⟩

theorem W.mono {P : Program} {N : Nat} {c : Code} {Q Q' : AQ} {env : Env} {S : St} (h : W P N c Q env S) (hq : ∀ x env S, Q x env S → Q' x env S) : W P N c Q' env S :=
  fun G a w h1 h2 => wp_mono (h G a w h1 h2) fun e a w ⟨x, env', S', G', k1, k2⟩ => ⟨x, env', S', G', hq _ _ _ k1, k2⟩

/-- A call of which all is known. -/
def Is (v : AV) (S0 : St) (x : CX) (S : St) : Prop := x = .ret v ∧ S = S0

/-! ### Regions -/
def Env.setO (env : Env) (d : Option Tmp) (v : AV) : Env :=
  match d with
  | some t => env.set t v
  | none => env

def dstOk (N : Nat) (d : Option Tmp) : Prop :=
  match d with
  | some t => t < N
  | none => True

theorem EnvRel.put {N : Nat} {G : Gh} {env : Env} {a : Act} (h : EnvRel N G env a.tmps) {d : Option Tmp} (hd : dstOk N d) {v : AV} {x : Value} (hv : RelA G v x) :
    EnvRel N G (env.setO d v) (a.put d x).tmps := by
  cases d with
  | none => exact h
  | some t => exact h.set hd hv

theorem put_defers (a : Act) (d : Option Tmp) (x : Value) : (a.put d x).defers = a.defers := by cases d <;> rfl

def wantedA (ops : List Oper) (env : Env) (o : Oper) : Option Bool :=
  match o.guard with
  | none => some true
  | some (j, want) =>
    match ops[j]? with
    | some g =>
      match g.dst with
      | some t =>
        match env.get t with
        | .c (.bool b) => some (b == want)
        | .tup [] => some false
        | _ => none
      | none => none
    | none => none

theorem wantedA_sound {N : Nat} {G : Gh} {ops : List Oper} {env : Env} {a : Act} {o : Oper} {b : Bool} (hE : EnvRel N G env a.tmps) (h : wantedA ops env o = some b) :
    Region.wanted o (yielded ops.toArray a.tmps) = b := by
  unfold wantedA at h
  unfold Region.wanted
  split at h
  · cases h; rename_i hg; simp [hg]
  · rename_i j want hg
    split at h
    · rename_i g hj
      split at h
      · rename_i t ht
        have hr := hE.get t
        simp only [hg, yielded, List.getElem?_toArray, hj, Option.bind_some, ht]
        split at h
        · rename_i c hc
          cases h
          rw [hc] at hr
          have := relA_c hr
          have hv : a.tmps.getD t undef = .bool c := by generalize a.tmps.getD t undef = z at this; cases this; rfl
          have hlt : a.tmps[t]? = some (.bool c) := by
            rcases Nat.lt_or_ge t a.tmps.size with h | h
            · simp [Array.getD, h] at hv; simp [h, hv]
            · simp [Array.getD, Nat.not_lt.2 h, undef] at hv
          simp [hlt]
        · rename_i hc
          cases h
          rw [hc] at hr
          have hv : a.tmps.getD t undef = .tuple #[] := by
            generalize a.tmps.getD t undef = z at hr
            cases hr with
            | tup hl h =>
              rename_i vs
              have : vs = [] := List.eq_nil_of_length_eq_zero (by simpa using hl.symm)
              subst this; rfl
          rcases Nat.lt_or_ge t a.tmps.size with h | h
          · simp [Array.getD, h] at hv; simp [h, hv]
          · simp [Array.getElem?_eq_none h]
        · cases h
      · cases h
    · cases h

/-- What follows a call. -/
def callK (K : Env → St → Prop) (Q : AQ) (env : Env) (d : Option Tmp) (x : CX) (S : St) : Prop :=
  match x with
  | .ret v => K (env.setO d v) S
  | .panic v => Q (.panic v) env S

/-- What follows an operation's answer. -/
def resK (P : Program) (K : Env → St → Prop) (Q : AQ) (env : Env) (S : St) (d : Option Tmp) : Option Res → Prop
  | none => False
  | some (.val v cm) => K (env.setO d v) (S.run cm)
  | some (.skip cm) => K (env.setO d (.tup [])) (S.run cm)
  | some (.call f args) => WC P f args (callK K Q env d) S
  | some (.pan v) => Q (.panic v) env S
  | some (.any l) => ∀ p ∈ l, K (env.setO d p.1) (S.run p.2)

/-- What follows an operation's guard. -/
def guardK (P : Program) (K : Env → St → Prop) (Q : AQ) (o : Oper) (env : Env) (S : St) : Option Bool → Prop
  | none => False
  | some false => K (env.setO o.dst (.tup [])) S
  | some true => resK P K Q env S o.dst (evalOp P o env S)

/-- The operations of a region, one after the other. -/
def WOps (P : Program) (N : Nat) (ops : List Oper) (Q : AQ) : List Oper → Env → St → Prop
  | [], env, S => Q .normal env S
  | o :: rest, env, S => dstOk N o.dst ∧ guardK P (WOps P N ops Q rest) Q o env S (wantedA ops env o)

theorem undef_rel (G : Gh) : RelA G (.tup []) undef := by
  have := RelA.tup (G := G) (cs := []) (vs := []) rfl (fun i a b ha => by simp at ha)
  exact this

theorem wops_sound {P : Program} {N : Nat} {ops : List Oper} {Q : AQ} {G0 : Gh} {S0 : St} {w0 : World} : ∀ (l : List Nat) (rest : List Oper) (env : Env) (S : St) (G : Gh) (a : Act) (w : World),
    l.map (fun i => ops[i]?) = rest.map some → WOps P N ops Q rest env S → EnvRel N G env a.tmps → Inv G S w → Ext G0 S0 w0 G S w →
    wpOps P ops.toArray (Post N G0 S0 w0 a.defers Q) l a w
  | [], [], env, S, G, a, w, _, h, hE, hI, hX => ⟨.normal, env, S, G, h, trivial, hE, hI, hX, rfl⟩
  | [], _ :: _, _, _, _, _, _, hl, _, _, _, _ => by simp at hl
  | _ :: _, [], _, _, _, _, _, hl, _, _, _, _ => by simp at hl
  | i :: l, o :: rest, env, S, G, a, w, hl, h, hE, hI, hX => by
    simp only [List.map_cons, List.cons.injEq] at hl
    obtain ⟨ho, hl⟩ := hl
    simp only [WOps] at h
    obtain ⟨hd, h⟩ := h
    have hoa : ops.toArray[i]? = some o := by simpa using ho
    simp only [wpOps, hoa]
    have hput : ∀ (x : Value), (a.put o.dst x).defers = a.defers := put_defers a o.dst
    cases hw : wantedA ops env o with
    | none => rw [hw] at h; exact h.elim
    | some b =>
    rw [hw] at h
    cases b with
    | false =>
      replace h : WOps P N ops Q rest (env.setO o.dst (.tup [])) S := h
      rw [wantedA_sound hE hw]
      simp only [Bool.false_eq_true, if_false]
      have := wops_sound l rest _ S G (a.put o.dst undef) w hl h (hE.put hd (undef_rel G)) hI hX
      rwa [hput] at this
    | true =>
      replace h : resK P (WOps P N ops Q rest) Q env S o.dst (evalOp P o env S) := h
      rw [wantedA_sound hE hw]
      simp only [if_true]
      left
      cases he : evalOp P o env S with
      | none => rw [he] at h; exact h.elim
      | some r =>
      rw [he] at h
      cases r with
      | val v cm =>
        obtain ⟨x, G', w', k1, k2, k3, k4⟩ := evalOp_sound (P := P) hI hE he
        simp only [Oper.wp, k1, Oper.upon]
        have := wops_sound l rest _ _ G' (a.put o.dst x) w' hl h ((hE.mono k4.le).put hd k2) k3 (hX.trans k4)
        rwa [hput] at this
      | skip cm =>
        obtain ⟨G', w', k1, k3, k4⟩ := evalOp_sound (P := P) hI hE he
        simp only [Oper.wp, k1, Oper.upon]
        have := wops_sound l rest _ _ G' (a.put o.dst undef) w' hl h ((hE.mono k4.le).put hd (undef_rel G')) k3 (hX.trans k4)
        rwa [hput] at this
      | call f args =>
        obtain ⟨vals, k1, k2⟩ := evalOp_sound (P := P) hI hE he
        have hc : Upon P f vals.toArray w (CPost G S w (callK (WOps P N ops Q rest) Q env o.dst)) := h G vals w k2 hI
        simp only [Oper.wp, k1]
        have key : ∀ e w', CPost G S w (callK (WOps P N ops Q rest) Q env o.dst) e w' →
            match e, w' with
            | .returned v, w'' => wpOps P ops.toArray (Post N G0 S0 w0 a.defers Q) l (a.put o.dst v) w''
            | .panicked chain, w'' => Post N G0 S0 w0 a.defers Q (.panic chain) a w''
            | .outgrown, _ => LetsOut (Post N G0 S0 w0 a.defers Q) := by
          rintro e w' ⟨x, S', G', r1, r2, r3, r4⟩
          cases x with
          | ret v =>
            cases e with
            | returned y =>
              have := wops_sound l rest _ _ G' (a.put o.dst y) w' hl r1 ((hE.mono r4.le).put hd r2) r3 (hX.trans r4)
              rwa [hput] at this
            | panicked ch => exact r2.elim
            | outgrown => exact r2.elim
          | panic v =>
            cases e with
            | returned y => exact r2.elim
            | panicked ch => exact ⟨.panic v, env, S', G', r1, r2, hE.mono r4.le, r3, hX.trans r4, rfl⟩
            | outgrown => exact r2.elim
        unfold Upon at hc
        split at hc
        · rename_i f' args' w' hrun
          rw [hrun]
          simp only [Oper.upon]
          exact Calls.mono hc key
        · rename_i v w' hrun
          rw [hrun]
          simp only [Oper.upon]
          exact key _ _ hc
        · exact hc.elim
      | pan v =>
        obtain ⟨x, k1, k2⟩ := evalOp_sound (P := P) hI hE he
        simp only [Oper.wp, k1, Oper.upon]
        exact ⟨.panic v, env, S, G, h, ⟨x, rfl, k2⟩, hE, hI, hX, rfl⟩
      | any l' =>
        obtain ⟨p, hp, x, G', w', k1, k2, k3, k4⟩ := evalOp_sound (P := P) hI hE he
        simp only [Oper.wp, k1, Oper.upon]
        have := wops_sound l rest _ _ G' (a.put o.dst x) w' hl (h p hp) ((hE.mono k4.le).put hd k2) k3 (hX.trans k4)
        rwa [hput] at this

theorem w_region {P : Program} {N : Nat} {id : Nat} {ops : Array Oper} {Q : AQ} {env : Env} {S : St} (h : WOps P N ops.toList Q ops.toList env S) : W P N (.region id ops false) Q env S := by
  intro G a w hE hI
  refine wp_region ?_
  have := wops_sound (P := P) (List.range ops.size) ops.toList env S G a w (by
    apply List.ext_getElem?
    intro i
    simp only [List.getElem?_map, List.getElem?_range']
    by_cases hi : i < ops.size
    · simp [hi]
    · simp [Nat.not_lt.1 hi]) h hE hI (.refl G S w)
  simpa using this

end Go.Abs
