/-
  The abstract machine, part T: statements, loops, and a function's body.
-/
import Derived.Test.YtnnbhfoimaodhaaAbsS
namespace Go.Abs
set_option linter.unusedVariables false
set_option linter.unusedSimpArgs false

def thenX (next : Env → St → Prop) (Q : AQ) : AQ
  | .normal, env, S => next env S
  | x, env, S => Q x env S

def blockX (id : Nat) (Q : AQ) : AQ
  | .exit j, env, S => if j = id then Q .normal env S else Q (.exit j) env S
  | x, env, S => Q x env S

theorem w_seq {P : Program} {N : Nat} {x y : Code} {Q : AQ} {env : Env} {S : St} (h : W P N x (thenX (W P N y Q) Q) env S) : W P N (.seq x y) Q env S := by
  intro G a w hE hI
  refine wp_seq (wp_mono (h G a w hE hI) ?_)
  rintro e a' w' ⟨x, env', S', G', k1, k2, k3, k4, k5, k6⟩
  cases x with
  | normal =>
    cases e with
    | normal =>
      have := k1 G' a' w' k3 k4
      rw [k6] at this
      exact wp_mono this fun e a w h => h.trans k5
    | _ => exact k2.elim
  | exit i =>
    cases e with
    | exit j => exact ⟨.exit i, env', S', G', k1, k2, k3, k4, k5, k6⟩
    | _ => exact k2.elim
  | ret =>
    cases e with
    | ret => exact ⟨.ret, env', S', G', k1, k2, k3, k4, k5, k6⟩
    | _ => exact k2.elim
  | panic v =>
    cases e with
    | panic ch => exact ⟨.panic v, env', S', G', k1, k2, k3, k4, k5, k6⟩
    | _ => exact k2.elim

theorem w_cond {P : Program} {N : Nat} {c : Operand} {x y : Code} {Q : AQ} {env : Env} {S : St} {t : Bool} (hc : opnd env c = some (.c (.bool t)))
    (ht : t = true → W P N x Q env S) (hf : t = false → W P N y Q env S) : W P N (.cond c x y) Q env S := by
  intro G a w hE hI
  have hr := relA_c (opnd_rel hE hc)
  have : a.eval c = .bool t := by generalize a.eval c = z at hr; cases hr; rfl
  exact wp_cond_split this (fun h => ht h G a w hE hI) (fun h => hf h G a w hE hI)

theorem w_block {P : Program} {N : Nat} {id : Nat} {c : Code} {Q : AQ} {env : Env} {S : St} (h : W P N c (blockX id Q) env S) : W P N (.block id c) Q env S := by
  intro G a w hE hI
  refine wp_block (wp_mono (h G a w hE hI) ?_)
  rintro e a' w' ⟨x, env', S', G', k1, k2, k3, k4, k5, k6⟩
  cases x with
  | normal =>
    cases e with
    | normal => exact ⟨.normal, env', S', G', k1, k2, k3, k4, k5, k6⟩
    | _ => exact k2.elim
  | exit i =>
    cases e with
    | exit j =>
      have e1 : i = j := k2
      subst e1
      by_cases hid : i = id
      · subst hid
        simp only [blockX, if_true] at k1
        simp only [Exit.inBlock, if_true]
        exact ⟨.normal, env', S', G', k1, trivial, k3, k4, k5, k6⟩
      · simp only [blockX, if_neg hid] at k1
        simp only [Exit.inBlock, if_neg hid]
        exact ⟨.exit i, env', S', G', k1, rfl, k3, k4, k5, k6⟩
    | _ => exact k2.elim
  | ret =>
    cases e with
    | ret => exact ⟨.ret, env', S', G', k1, k2, k3, k4, k5, k6⟩
    | _ => exact k2.elim
  | panic v =>
    cases e with
    | panic ch => exact ⟨.panic v, env', S', G', k1, k2, k3, k4, k5, k6⟩
    | _ => exact k2.elim

theorem w_skip {P : Program} {N : Nat} {Q : AQ} {env : Env} {S : St} (h : Q .normal env S) : W P N .skip Q env S :=
  fun G a w hE hI => wp_skip ⟨.normal, env, S, G, h, trivial, hE, hI, .refl G S w, rfl⟩
theorem w_exit {P : Program} {N id : Nat} {Q : AQ} {env : Env} {S : St} (h : Q (.exit id) env S) : W P N (.exit id) Q env S :=
  fun G a w hE hI => wp_exit ⟨.exit id, env, S, G, h, rfl, hE, hI, .refl G S w, rfl⟩
theorem w_ret {P : Program} {N : Nat} {Q : AQ} {env : Env} {S : St} (h : Q .ret env S) : W P N .ret Q env S :=
  fun G a w hE hI => wp_ret ⟨.ret, env, S, G, h, trivial, hE, hI, .refl G S w, rfl⟩

/-! ### Loops -/
/-- A loop at the head of a round. -/
def LoopWp (P : Program) (c : Code) (Q : Exit → Act → World → Prop) (a : Act) (w : World) : Prop :=
  ∀ (b : Frame) (k : List Item) (cs : List Frame), ∃ e a' w', Q e a' w' ∧ Arrives P (lone (b.at a (.code c :: .inLoop c :: k)) cs w) b k cs e a' w'

theorem LoopWp.mono {P : Program} {c : Code} {Q Q' : Exit → Act → World → Prop} {a : Act} {w : World} (h : LoopWp P c Q a w) (hq : ∀ e a w, Q e a w → Q' e a w) : LoopWp P c Q' a w :=
  fun b k cs => let ⟨e, a', w', q, r⟩ := h b k cs; ⟨e, a', w', hq _ _ _ q, r⟩

theorem wp_of_loopWp {P : Program} {c : Code} {Q : Exit → Act → World → Prop} {a : Act} {w : World} (h : LoopWp P c Q a w) : (Code.loop c).wp P Q a w :=
  fun b k cs => let ⟨e, a', w', q, r⟩ := h b k cs; ⟨e, a', w', q, .of_steps (.one step_loop) r⟩

theorem loopWp_unfold {P : Program} {c : Code} {Q : Exit → Act → World → Prop} {a : Act} {w : World} (h : c.wp P (Exit.then (LoopWp P c Q) Q) a w) : LoopWp P c Q a w := by
  intro b k cs
  obtain ⟨e, a₁, w₁, hq, harr⟩ := h b (.inLoop c :: k) cs
  cases e with
  | normal =>
    obtain ⟨e₂, a₂, w₂, hq₂, harr₂⟩ := hq b k cs
    exact ⟨e₂, a₂, w₂, hq₂, .of_steps (Steps.trans harr (.one step_inLoop)) harr₂⟩
  | exit id => exact ⟨_, a₁, w₁, hq, .pass (x := .inLoop c) rfl (fun _ _ => .inl (by simp)) harr⟩
  | goto l => exact ⟨_, a₁, w₁, hq, .pass (x := .inLoop c) rfl (fun _ _ => .inl (by simp)) harr⟩
  | ret => exact ⟨_, a₁, w₁, hq, .pass (x := .inLoop c) rfl (fun _ _ => .inl (by simp)) harr⟩
  | panic ch => exact ⟨_, a₁, w₁, hq, .pass (x := .inLoop c) rfl (fun _ _ => .inl (by simp)) harr⟩
  | outgrown => exact ⟨_, a₁, w₁, hq, .pass (x := .inLoop c) rfl (fun _ _ => .inl (by simp)) harr⟩

def WLoop (P : Program) (N : Nat) (c : Code) (Q : AQ) (env : Env) (S : St) : Prop :=
  ∀ G a w, EnvRel N G env a.tmps → Inv G S w → LoopWp P c (Post N G S w a.defers Q) a w

theorem w_loop {P : Program} {N : Nat} {c : Code} {Q : AQ} {env : Env} {S : St} (h : WLoop P N c Q env S) : W P N (.loop c) Q env S :=
  fun G a w hE hI => wp_of_loopWp (h G a w hE hI)

theorem wloop_unfold {P : Program} {N : Nat} {c : Code} {Q : AQ} {env : Env} {S : St} (h : W P N c (thenX (WLoop P N c Q) Q) env S) : WLoop P N c Q env S := by
  intro G a w hE hI
  refine loopWp_unfold (wp_mono (h G a w hE hI) ?_)
  rintro e a' w' ⟨x, env', S', G', k1, k2, k3, k4, k5, k6⟩
  cases x with
  | normal =>
    cases e with
    | normal =>
      have := k1 G' a' w' k3 k4
      rw [k6] at this
      exact this.mono fun e a w h => h.trans k5
    | _ => exact k2.elim
  | exit i =>
    cases e with
    | exit j => exact ⟨.exit i, env', S', G', k1, k2, k3, k4, k5, k6⟩
    | _ => exact k2.elim
  | ret =>
    cases e with
    | ret => exact ⟨.ret, env', S', G', k1, k2, k3, k4, k5, k6⟩
    | _ => exact k2.elim
  | panic v =>
    cases e with
    | panic ch => exact ⟨.panic v, env', S', G', k1, k2, k3, k4, k5, k6⟩
    | _ => exact k2.elim

theorem WLoop.mono {P : Program} {N : Nat} {c : Code} {Q Q' : AQ} {env : Env} {S : St} (h : WLoop P N c Q env S) (hq : ∀ x env S, Q x env S → Q' x env S) : WLoop P N c Q' env S :=
  fun G a w h1 h2 => (h G a w h1 h2).mono fun e a w ⟨x, env', S', G', k1, k2⟩ => ⟨x, env', S', G', hq _ _ _ k1, k2⟩

/-! ### Code, read as a whole -/
/-- A region whose order is open: what must hold of it. (Stated on the model's side; rules below.) -/
def WDraw (P : Program) (N : Nat) (id : Nat) (ops : Array Oper) (Q : AQ) (env : Env) (S : St) : Prop := W P N (.region id ops true) Q env S

/-- What follows a condition. -/
def condK (A B : Env → St → Prop) (env : Env) (S : St) : Option AV → Prop
  | some (.c (.bool true)) => A env S
  | some (.c (.bool false)) => B env S
  | _ => False

def WCode (P : Program) (N : Nat) : Code → AQ → Env → St → Prop
  | .skip, Q, env, S => Q .normal env S
  | .region id ops d, Q, env, S =>
    match d with
    | false => WOps P N ops.toList Q ops.toList env S
    | true => WDraw P N id ops Q env S
  | .seq x y, Q, env, S => WCode P N x (thenX (WCode P N y Q) Q) env S
  | .cond c x y, Q, env, S => condK (WCode P N x Q) (WCode P N y Q) env S (opnd env c)
  | .block id c, Q, env, S => WCode P N c (blockX id Q) env S
  | .loop c, Q, env, S => WLoop P N c Q env S
  | .exit id, Q, env, S => Q (.exit id) env S
  | .ret, Q, env, S => Q .ret env S
  | _, _, _, _ => False

theorem wcode_sound {P : Program} {N : Nat} : ∀ {c : Code} {Q : AQ} {env : Env} {S : St}, WCode P N c Q env S → W P N c Q env S
  | .skip, _, _, _, h => w_skip h
  | .region id ops false, _, _, _, h => w_region h
  | .region id ops true, _, _, _, h => h
  | .seq x y, Q, env, S, h => w_seq ((wcode_sound (c := x) h).mono fun x env S h => by
      cases x with
      | normal => exact wcode_sound (c := y) h
      | _ => exact h)
  | .cond c x y, Q, env, S, h => by
    simp only [WCode] at h
    unfold condK at h
    split at h
    · rename_i hc
      exact w_cond hc (fun _ => wcode_sound h) (fun e => Bool.noConfusion e)
    · rename_i hc
      exact w_cond hc (fun e => Bool.noConfusion e) (fun _ => wcode_sound h)
    · exact h.elim
  | .block id c, Q, env, S, h => w_block (wcode_sound (c := c) h)
  | .loop c, Q, env, S, h => w_loop h
  | .exit id, _, _, _, h => w_exit h
  | .ret, _, _, _, h => w_ret h
  | .rangeFunc _ _ _ _, _, _, _, h => h.elim
  | .scope _, _, _, _, h => h.elim
  | .label _, _, _, _, h => h.elim
  | .goto _, _, _, _, h => h.elim
  | .refuse _, _, _, _, h => h.elim

/-- One round of a loop, by the reading of its code. -/
theorem wloop_round {P : Program} {N : Nat} {c : Code} {Q : AQ} {env : Env} {S : St} (h : WCode P N c (thenX (WLoop P N c Q) Q) env S) : WLoop P N c Q env S :=
  wloop_unfold (wcode_sound h)

/-! ### A function's body -/
def envOf : List AV → Nat → Env
  | [], _ => fun _ => .undef
  | v :: r, i => fun t => bif Nat.beq i t then v else envOf r (i + 1) t

theorem envOf_get : ∀ (l : List AV) (i t : Nat), envOf l i t = if i ≤ t ∧ t < i + l.length then l.getD (t - i) .undef else .undef
  | [], i, t => by simp [envOf]
  | v :: r, i, t => by
    simp only [envOf]
    by_cases h : i = t
    · subst h
      simp
    · rw [beq_ne h, cond_false, envOf_get r (i + 1) t]
      simp only [List.length_cons]
      by_cases h1 : i + 1 ≤ t ∧ t < i + 1 + r.length
      · rw [if_pos h1, if_pos (by omega)]
        have : t - i = (t - (i + 1)) + 1 := by omega
        rw [this]; simp
      · rw [if_neg h1, if_neg (by omega)]

theorem envOf_nil (i t : Nat) : (envOf [] i).get t = .undef := rfl
theorem envOf_cons (v : AV) (l : List AV) (i : Nat) : envOf (v :: l) i = (envOf l (i + 1)).set i v := rfl

def resA (P : Program) (env : Env) (S : St) : ResultVar → Option AV
  | .tmp t => some (env.get t)
  | .cell a t => aLoad P t (env.get a) S

def resAs (P : Program) (env : Env) (S : St) : List ResultVar → Option (List AV)
  | [] => some []
  | r :: rs =>
    match resA P env S r, resAs P env S rs with
    | some v, some l => some (v :: l)
    | _, _ => none

def resultA (P : Program) (fn : Func) (env : Env) (S : St) : Option AV :=
  match resAs P env S fn.results.toList with
  | some [v] => some v
  | some l => some (.tup l)
  | none => none

def resM (tmps : Array Value) (r : ResultVar) : Sem Value :=
  match r with
  | .tmp t => pure (tmps.getD t undef)
  | .cell a t => asAddr (tmps.getD a undef) >>= fun p => loadVar t p

theorem results_eq (fn : Func) (tmps : Array Value) : results fn tmps = (fn.results.mapM (resM tmps) >>= fun vs => pure (if h : vs.size = 1 then vs[0] else .tuple vs)) := by
  unfold results
  have : (fun x : ResultVar => match x with | .tmp t => (pure (tmps.getD t undef) : Sem Value) | .cell a t => do loadVar t (← asAddr (tmps.getD a undef))) = resM tmps := by
    funext r; cases r <;> rfl
  rw [← this]
  rfl

theorem resAs_sound {P : Program} {N : Nat} {G : Gh} {env : Env} {S : St} {w : World} {tmps : Array Value} (hE : EnvRel N G env tmps) (hI : Inv G S w) : ∀ {rs : List ResultVar} {l : List AV}, resAs P env S rs = some l →
    ∃ vs : List Value, Sem.run P (rs.mapM (resM tmps)) w = .ok vs w ∧ RelL G l vs
  | [], l, h => by simp [resAs] at h; subst h; exact ⟨[], rfl, rfl, fun i a b ha => by simp at ha⟩
  | r :: rs, l, h => by
    simp only [resAs] at h
    split at h
    · rename_i v m h1 h2
      cases h
      obtain ⟨vs, k1, k2⟩ := resAs_sound hE hI h2
      have : ∃ x, Sem.run P (resM tmps r) w = .ok x w ∧ RelA G v x := by
        cases r with
        | tmp t => simp [resA] at h1; subst h1; exact ⟨_, rfl, hE.get t⟩
        | cell a t =>
          simp only [resA] at h1
          obtain ⟨x, x1, x2⟩ := load_sound (P := P) hI h1 (hE.get a)
          have hp : ∃ p, tmps.getD a undef = .pointer (some p) := by
            have hr := hE.get a
            unfold aLoad at h1
            generalize tmps.getD a undef = z at hr
            split at h1
            · rename_i he; rw [he] at hr; cases hr; exact ⟨_, rfl⟩
            · rename_i he; rw [he] at hr; cases hr; exact ⟨_, rfl⟩
            · cases h1
          obtain ⟨p, hp⟩ := hp
          rw [hp] at x1
          refine ⟨x, ?_, x2⟩
          simp only [resM, hp, asAddr]
          simpa [Instr.loadAt, Instr.sureAddr] using x1
      obtain ⟨x, x1, x2⟩ := this
      refine ⟨x :: vs, ?_, by simp [k2.len], ?_⟩
      · rw [List.mapM_cons]
        simp only [Sem.run_bind, x1, Result.andThen_ok, k1]
        rfl
      · intro i a b ha hb
        cases i with
        | zero => simp at ha hb; subst ha; subst hb; exact x2
        | succ i => simp at ha hb; exact k2.rel i a b ha hb
    · cases h

theorem resultA_sound {P : Program} {N : Nat} {G : Gh} {env : Env} {S : St} {w : World} {tmps : Array Value} {fn : Func} {v : AV} (hE : EnvRel N G env tmps) (hI : Inv G S w) (h : resultA P fn env S = some v) :
    ∃ x, Sem.run P (results fn tmps) w = .ok x w ∧ RelA G v x := by
  have hm : ∀ l, resAs P env S fn.results.toList = some l → ∃ vs : List Value, Sem.run P (fn.results.mapM (resM tmps)) w = .ok vs.toArray w ∧ RelL G l vs := by
    intro l hl
    obtain ⟨vs, k1, k2⟩ := resAs_sound (P := P) hE hI hl
    refine ⟨vs, ?_, k2⟩
    rw [Array.mapM_eq_mapM_toList]
    simp only [Sem.run_map, k1, Result.andThen_ok]
  unfold resultA at h
  split at h
  · rename_i u hl
    cases h
    obtain ⟨vs, k1, k2⟩ := hm _ hl
    match vs, k2 with
    | [x], k2 =>
      refine ⟨x, ?_, k2.rel 0 _ _ rfl rfl⟩
      simp only [results_eq, Sem.run_bind]
      rw [k1]
      rfl
    | [], k2 => have := k2.len; simp at this
    | _ :: _ :: _, k2 => have := k2.len; simp at this
  · rename_i l hne hl
    cases h
    obtain ⟨vs, k1, k2⟩ := hm _ hl
    refine ⟨.tuple vs.toArray, ?_, .tup k2.len k2.rel⟩
    have h1 : vs.toArray.size ≠ 1 := by
      intro e
      have e2 : l.length = 1 := by rw [k2.len]; simpa using e
      match l, e2 with
      | [u], _ => exact hne u rfl
    simp only [results_eq, Sem.run_bind]
    rw [k1]
    simp only [Result.andThen_ok, dif_neg h1]
    rfl
  · cases h

end Go.Abs
