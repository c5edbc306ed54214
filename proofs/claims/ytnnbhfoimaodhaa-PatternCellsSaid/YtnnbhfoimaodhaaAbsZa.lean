/-
  The abstract machine, part Za: a run as a function is a run.
-/
import Derived.Test.YtnnbhfoimaodhaaAbsZ
namespace Go.Abs
set_option linter.unusedVariables false
set_option linter.unusedSimpArgs false

theorem bif_beq {α : Sort _} (a b : Nat) (x y : α) : (bif Nat.beq a b then x else y) = if a = b then x else y := by
  by_cases h : a = b
  · subst h; simp
  · simp [beq_ne h, h]

theorem Tr.get_nil {α : Type} (k : Nat) : (Tr.nil : Tr α).get k = none := rfl

theorem Tr.get_node {α : Type} (v : Option α) (l r : Tr α) (k : Nat) : (Tr.node v l r).get k = if k = 0 then v else if k % 2 = 1 then l.get (k / 2) else r.get (k / 2 - 1) := by
  simp only [Tr.get, bif_beq]

theorem Tr.get_set {α : Type} : ∀ {d : Nat} {t t' : Tr α} {k : Nat} {x : α}, Tr.set d t k x = some t' → ∀ k', t'.get k' = if k = k' then some x else t.get k'
  | 0, _, _, _, _, h, _ => by simp [Tr.set] at h
  | d + 1, .nil, t', k, x, h, k' => by
    simp only [Tr.set, bif_beq] at h
    split at h
    · cases h; subst k
      by_cases h' : k' = 0
      · subst h'; simp [Tr.get_node]
      · have : ¬ 0 = k' := fun e => h' e.symm
        simp [Tr.get_node, h', this, Tr.get_nil]
    · rename_i hk
      split at h
      · split at h
        · rename_i t1 h1
          cases h
          have ih := Tr.get_set h1
          rw [Tr.get_node, Tr.get_nil]
          by_cases h' : k' = 0
          · subst h'; simp [hk, Tr.get_nil]
          · simp only [h', if_false, ih, Tr.get_nil]
            split
            · by_cases e : k = k'
              · subst e; simp
              · have : ¬ k / 2 = k' / 2 := by omega
                simp [e, this]
            · have : ¬ k = k' := by rintro rfl; omega
              simp [this]
        · cases h
      · split at h
        · rename_i t1 h1
          cases h
          have ih := Tr.get_set h1
          rw [Tr.get_node, Tr.get_nil]
          by_cases h' : k' = 0
          · subst h'; simp [hk, Tr.get_nil]
          · simp only [h', if_false, ih, Tr.get_nil]
            split
            · have : ¬ k = k' := by rintro rfl; omega
              simp [this]
            · by_cases e : k = k'
              · subst e; simp
              · have : ¬ k / 2 - 1 = k' / 2 - 1 := by omega
                simp [e, this]
        · cases h
  | d + 1, .node v l r, t', k, x, h, k' => by
    simp only [Tr.set, bif_beq] at h
    split at h
    · cases h; subst k
      by_cases h' : k' = 0
      · subst h'; simp [Tr.get_node]
      · have : ¬ 0 = k' := fun e => h' e.symm
        simp [Tr.get_node, h', this]
    · rename_i hk
      split at h
      · split at h
        · rename_i t1 h1
          cases h
          have ih := Tr.get_set h1
          rw [Tr.get_node, Tr.get_node]
          by_cases h' : k' = 0
          · subst h'; simp [hk, Tr.get_nil]
          · simp only [h', if_false, ih]
            split
            · by_cases e : k = k'
              · subst e; simp
              · have : ¬ k / 2 = k' / 2 := by omega
                simp [e, this]
            · have : ¬ k = k' := by rintro rfl; omega
              simp [this]
        · cases h
      · split at h
        · rename_i t1 h1
          cases h
          have ih := Tr.get_set h1
          rw [Tr.get_node, Tr.get_node]
          by_cases h' : k' = 0
          · subst h'; simp [hk, Tr.get_nil]
          · simp only [h', if_false, ih]
            split
            · have : ¬ k = k' := by rintro rfl; omega
              simp [this]
            · by_cases e : k = k'
              · subst e; simp
              · have : ¬ k / 2 - 1 = k' / 2 - 1 := by omega
                simp [e, this]
        · cases h

theorem toEnv_set {d : Nat} {e e' : EE} {t : Nat} {v : AV} (h : Tr.set d e t v = some e') : e'.toEnv = e.toEnv.set t v := by
  funext u
  simp only [EE.toEnv, Env.set, bif_beq, Tr.get_set h]
  by_cases hu : t = u <;> simp [hu]

theorem put_spec {N : Nat} {e e' : EE} {d : Option Tmp} {v : AV} (h : EE.put N e d v = some e') : dstOk N d ∧ e'.toEnv = e.toEnv.setO d v := by
  cases d with
  | none => cases h; exact ⟨trivial, rfl⟩
  | some t =>
    simp only [EE.put] at h
    cases hb : Nat.blt t N with
    | false => rw [hb] at h; cases h
    | true => rw [hb] at h; exact ⟨blt_lt hb, toEnv_set h⟩

theorem argsT_spec : ∀ {l : List AV} {i : Nat} {e e' : EE}, argsT l i e = some e' → ∀ t, e'.toEnv t = if i ≤ t ∧ t < i + l.length then l.getD (t - i) .undef else e.toEnv t
  | [], i, e, e', h, t => by
    cases h
    have : ¬ (i ≤ t ∧ t < i + ([] : List AV).length) := by simp
    rw [if_neg this]
  | v :: r, i, e, e', h, t => by
    simp only [argsT] at h
    split at h
    · rename_i e1 h1
      rw [argsT_spec h t, toEnv_set h1]
      simp only [Env.set, bif_beq, List.length_cons]
      by_cases h2 : i + 1 ≤ t ∧ t < i + 1 + r.length
      · rw [if_pos h2, if_pos (by omega)]
        have : t - i = (t - (i + 1)) + 1 := by omega
        rw [this]; simp
      · rw [if_neg h2]
        by_cases h3 : i = t
        · subst h3; simp
        · rw [if_neg h3, if_neg (by omega)]
    · cases h

theorem argsT_env {l : List AV} {e : EE} (h : argsT l 0 .nil = some e) : e.toEnv = envOf l 0 := by
  funext t
  rw [argsT_spec h t, envOf_get]
  rfl

/-! ### Memory -/
structure Gr (s s' : ES) : Prop where
  next : s.next ≤ s'.next
  lo : s'.lo ≤ s.lo
  keep : ∀ b, b < s'.lo → b < s.next → s'.toSt.get b = s.toSt.get b

theorem Gr.refl (s : ES) : Gr s s := ⟨Nat.le_refl _, Nat.le_refl _, fun _ _ _ => rfl⟩
theorem Gr.trans {s s' s'' : ES} (h : Gr s s') (k : Gr s' s'') : Gr s s'' :=
  ⟨Nat.le_trans h.next k.next, Nat.le_trans k.lo h.lo, fun b h1 h2 => by
    rw [k.keep b h1 (Nat.lt_of_lt_of_le h2 h.next), h.keep b (Nat.lt_of_lt_of_le h1 k.lo) h2]⟩

theorem es_get (s : ES) (b : Nat) : s.toSt.get b = if b < s.next then s.mem.get b else none := by
  simp only [ES.toSt]
  by_cases h : b < s.next
  · simp [blt_dec, h]
  · simp [blt_dec, h]

theorem es_wf (s : ES) : s.toSt.Wf := by
  intro b o h
  rw [es_get] at h
  split at h
  · assumption
  · cases h

theorem cmd_spec {s s' : ES} {c : Cmd} (h : s.cmd c = some s') : s'.toSt = s.toSt.cmd c ∧ Gr s s' := by
  cases c with
  | new o =>
    simp only [ES.cmd] at h
    split at h
    · rename_i m hm
      cases h
      refine ⟨St.ext rfl (fun b => ?_) rfl rfl, ⟨Nat.le_succ _, Nat.le_refl _, fun b h1 h2 => ?_⟩⟩
      · rw [es_get, Tr.get_set hm]
        show _ = (s.toSt.new o).get b
        rw [St.get_new, es_get]
        show (if b < s.next + 1 then _ else _) = if s.next = b then _ else _
        by_cases h1 : s.next = b
        · subst h1; simp
        · by_cases h2 : b < s.next
          · simp [h1, h2, Nat.lt_succ_of_lt h2]
          · simp [h1, h2, show ¬ b < s.next + 1 by omega]
      · rw [es_get, es_get, Tr.get_set hm]
        show (if b < s.next + 1 then _ else _) = _
        have : ¬ s.next = b := by omega
        simp [this, h2, Nat.lt_succ_of_lt h2]
    · cases h
  | put b o =>
    simp only [ES.cmd] at h
    cases hb : Nat.blt b s.next with
    | false => rw [hb] at h; cases h
    | true =>
      rw [hb] at h
      simp only [cond_true] at h
      have hlt := blt_lt hb
      split at h
      · rename_i m hm
        cases h
        refine ⟨St.ext rfl (fun x => ?_) rfl rfl, ⟨Nat.le_refl _, ?_, fun x h1 h2 => ?_⟩⟩
        · rw [es_get, Tr.get_set hm]
          show _ = (s.toSt.put b o).get x
          rw [St.get_put, es_get]
          by_cases h1 : b = x
          · subst h1; simp [hlt]
          · simp [h1]
        · show (bif Nat.blt b s.lo then b else s.lo) ≤ s.lo
          rw [blt_dec]
          by_cases h : b < s.lo
          · simp [h]; omega
          · simp [h]
        · rw [es_get, es_get, Tr.get_set hm]
          have h3 : x < (bif Nat.blt b s.lo then b else s.lo) := h1
          rw [blt_dec] at h3
          have : ¬ b = x := by
            rintro rfl
            by_cases h : b < s.lo
            · simp [h] at h3
            · simp [h] at h3
          simp [this]
      · cases h
  | mark b => cases h
  | take t => cases h

theorem run_spec : ∀ {cm : List Cmd} {s s' : ES}, s.run cm = some s' → s'.toSt = s.toSt.run cm ∧ Gr s s'
  | [], s, s', h => by cases h; exact ⟨rfl, .refl s⟩
  | c :: r, s, s', h => by
    simp only [ES.run] at h
    split at h
    · rename_i s1 h1
      obtain ⟨k1, k2⟩ := cmd_spec h1
      obtain ⟨k3, k4⟩ := run_spec h
      exact ⟨by rw [k3, k1]; rfl, k2.trans k4⟩
    · cases h

/-! ### Equality of values -/
mutual
theorem FV.beq_eq : ∀ {a b : FV}, FV.beq a b = true → a = b
  | .bool a, b, h => by cases b <;> simp [FV.beq] at h; rw [h]
  | .int k a, b, h => by cases b <;> simp [FV.beq] at h; rw [h.1, h.2]
  | .str a, b, h => by cases b <;> simp [FV.beq] at h; rw [h]
  | .nilp, b, h => by cases b <;> simp [FV.beq] at h; rfl
  | .nils, b, h => by cases b <;> simp [FV.beq] at h; rfl
  | .nilm, b, h => by cases b <;> simp [FV.beq] at h; rfl
  | .nilf, b, h => by cases b <;> simp [FV.beq] at h; rfl
  | .nili, b, h => by cases b <;> simp [FV.beq] at h; rfl
  | .fn f, b, h => by cases b <;> simp [FV.beq] at h; rw [h]
  | .sl a, b, h => by cases b <;> simp [FV.beq] at h; rw [FV.beqs_eq h]
  | .agg a, b, h => by cases b <;> simp [FV.beq] at h; rw [FV.beqs_eq h]
  | .iface t a, b, h => by cases b <;> simp [FV.beq] at h; rw [h.1, FV.beq_eq h.2]
theorem FV.beqs_eq : ∀ {a b : List FV}, FV.beqs a b = true → a = b
  | [], b, h => by cases b <;> simp [FV.beqs] at h; rfl
  | x :: r, b, h => by
    cases b with
    | nil => simp [FV.beqs] at h
    | cons y q => simp [FV.beqs] at h; rw [FV.beq_eq h.1, FV.beqs_eq h.2]
end

mutual
theorem AV.beq_eq : ∀ {a b : AV}, AV.beq a b = true → a = b
  | .c a, b, h => by cases b <;> simp [AV.beq] at h; rw [FV.beq_eq h]
  | .ref x o, b, h => by cases b <;> simp [AV.beq] at h; rw [h.1, h.2]
  | .fref e o, b, h => by cases b <;> simp [AV.beq] at h; rw [FV.beq_eq h.1, h.2]
  | .gref a, b, h => by cases b <;> simp [AV.beq] at h; rw [h]
  | .sl x o l s f, b, h => by cases b <;> simp [AV.beq] at h; obtain ⟨⟨⟨⟨h1, h2⟩, h3⟩, h4⟩, h5⟩ := h; rw [h1, h2, h3, h4, h5]
  | .fz t xs, b, h => by cases b <;> simp [AV.beq] at h; rw [h.1, FV.beqs_eq h.2]
  | .map a, b, h => by cases b <;> simp [AV.beq] at h; rw [h]
  | .iter a, b, h => by cases b <;> simp [AV.beq] at h; rw [h]
  | .clo f x y, b, h => by cases b <;> simp [AV.beq] at h; rw [h.1.1, AV.beqs_eq h.1.2, AV.beqs_eq h.2]
  | .iface t a, b, h => by cases b <;> simp [AV.beq] at h; rw [h.1, AV.beq_eq h.2]
  | .agg a, b, h => by cases b <;> simp [AV.beq] at h; rw [AV.beqs_eq h]
  | .tup a, b, h => by cases b <;> simp [AV.beq] at h; rw [AV.beqs_eq h]
  | .undef, b, h => by cases b <;> simp [AV.beq] at h; rfl
theorem AV.beqs_eq : ∀ {a b : List AV}, AV.beqs a b = true → a = b
  | [], b, h => by cases b <;> simp [AV.beqs] at h; rfl
  | x :: r, b, h => by
    cases b with
    | nil => simp [AV.beqs] at h
    | cons y q => simp [AV.beqs] at h; rw [AV.beq_eq h.1, AV.beqs_eq h.2]
end

/-! ### The run -/
/-- Just this end. -/
def At (x : AX) (e : EE) (s : ES) : AQ := fun y env T => y = x ∧ env = e.toEnv ∧ T = s.toSt

def atOR : OR → AQ
  | .on e s => At .normal e s
  | .pan v e s => At (.panic v) e s

def OR.st : OR → ES
  | .on _ s => s
  | .pan _ _ s => s

def CallerOk (P : Program) (call : Caller) : Prop :=
  ∀ f args s x s', call f args s = some (x, s') → WC P f args (fun y T => y = x ∧ T = s'.toSt) s.toSt ∧ Gr s s'

theorem orVal_spec {N : Nat} {d : Option Tmp} {e : EE} {v : AV} {s : ES} {cm : List Cmd} {r : OR} (h : orVal N d e v (s.run cm) = some r) :
    dstOk N d ∧ ∃ e' s', r = .on e' s' ∧ e'.toEnv = e.toEnv.setO d v ∧ s'.toSt = s.toSt.run cm ∧ Gr s s' := by
  unfold orVal at h
  split at h
  · rename_i s' hs
    obtain ⟨k1, k2⟩ := run_spec hs
    split at h
    · rename_i e' he
      cases h
      obtain ⟨k3, k4⟩ := put_spec he
      exact ⟨k3, e', s', rfl, k4, k1, k2⟩
    · cases h
  · cases h

theorem orVal_self {N : Nat} {d : Option Tmp} {e : EE} {v : AV} {s : ES} {r : OR} (h : orVal N d e v (some s) = some r) :
    dstOk N d ∧ ∃ e', r = .on e' s ∧ e'.toEnv = e.toEnv.setO d v := by
  unfold orVal at h
  simp only at h
  split at h
  · rename_i e' he
    cases h
    obtain ⟨k3, k4⟩ := put_spec he
    exact ⟨k3, e', rfl, k4⟩
  · cases h

theorem orPan_spec {N : Nat} {d : Option Tmp} {v : AV} {e : EE} {s : ES} {r : OR} (h : orPan N d v e s = some r) : dstOk N d ∧ r = .pan v e s := by
  unfold orPan at h
  cases d with
  | none => cases h; exact ⟨trivial, rfl⟩
  | some t =>
    simp only at h
    cases hb : Nat.blt t N with
    | false => rw [hb] at h; cases h
    | true => rw [hb] at h; cases h; exact ⟨blt_lt hb, rfl⟩

/-- What an operation's run says, for whatever follows. -/
theorem orOp_spec {P : Program} {call : Caller} (hc : CallerOk P call) {N : Nat} {o : Oper} {e : EE} {s : ES} {w : Option Bool} {r : OR} (h : orOp P call N o e s w = some r) :
    Gr s r.st ∧ dstOk N o.dst ∧
    ∀ (K : Env → St → Prop) (Q : AQ), (∀ e' s', r = .on e' s' → K e'.toEnv s'.toSt) → (∀ v e' s', r = .pan v e' s' → Q (.panic v) e'.toEnv s'.toSt) → guardK P K Q o e.toEnv s.toSt w := by
  unfold orOp at h
  split at h
  · -- wanted
    show _ ∧ _ ∧ ∀ K Q, _ → _ → resK P K Q e.toEnv s.toSt o.dst (evalOp P o e.toEnv s.toSt)
    generalize evalOp P o e.toEnv s.toSt = res at h
    unfold orRes at h
    split at h
    · rename_i v cm
      obtain ⟨k1, e', s', rfl, k2, k3, k4⟩ := orVal_spec h
      refine ⟨k4, k1, fun K Q hK hQ => ?_⟩
      have := hK e' s' rfl
      rwa [k2, k3] at this
    · rename_i cm
      obtain ⟨k1, e', s', rfl, k2, k3, k4⟩ := orVal_spec h
      refine ⟨k4, k1, fun K Q hK hQ => ?_⟩
      have := hK e' s' rfl
      rwa [k2, k3] at this
    · rename_i f args
      unfold orCall at h
      split at h
      · rename_i v s' hcall
        obtain ⟨k1, k2⟩ := hc _ _ _ _ _ hcall
        split at h
        · rename_i e' he
          cases h
          obtain ⟨k3, k4⟩ := put_spec he
          refine ⟨k2, k3, fun K Q hK hQ => k1.mono ?_⟩
          rintro x S' ⟨rfl, rfl⟩
          have := hK e' s' rfl
          rwa [k4] at this
        · cases h
      · rename_i v s' hcall
        obtain ⟨k1, k2⟩ := hc _ _ _ _ _ hcall
        obtain ⟨k3, rfl⟩ := orPan_spec h
        refine ⟨k2, k3, fun K Q hK hQ => k1.mono ?_⟩
        rintro x S' ⟨rfl, rfl⟩
        exact hQ v e s' rfl
      · cases h
    · rename_i v
      obtain ⟨k3, rfl⟩ := orPan_spec h
      exact ⟨.refl s, k3, fun K Q hK hQ => hQ _ _ _ rfl⟩
    · rename_i p
      obtain ⟨k1, e', s', rfl, k2, k3, k4⟩ := orVal_spec h
      refine ⟨k4, k1, fun K Q hK hQ => ?_⟩
      intro q hq
      obtain rfl : q = p := by simpa using hq
      have := hK e' s' rfl
      rwa [k2, k3] at this
    · cases h
  · obtain ⟨k1, e', rfl, k2⟩ := orVal_self h
    refine ⟨.refl s, k1, fun K Q hK hQ => ?_⟩
    have := hK e' s rfl
    rw [k2] at this
    exact this
  · cases h

theorem xOps_spec {P : Program} {call : Caller} (hc : CallerOk P call) {N : Nat} {ops : List Oper} : ∀ {rest : List Oper} {e : EE} {s : ES} {r : OR}, xOps P call N ops rest e s = some r →
    WOps P N ops (atOR r) rest e.toEnv s.toSt ∧ Gr s r.st
  | [], e, s, r, h => by cases h; exact ⟨⟨rfl, rfl, rfl⟩, .refl s⟩
  | o :: rest, e, s, r, h => by
    simp only [xOps] at h
    split at h
    · rename_i e' s' ho
      obtain ⟨k1, k2, k3⟩ := orOp_spec hc ho
      obtain ⟨k4, k5⟩ := xOps_spec hc h
      refine ⟨⟨k2, k3 _ _ (fun e1 s1 h1 => ?_) (fun v e1 s1 h1 => by cases h1)⟩, k1.trans k5⟩
      cases h1
      exact k4
    · rename_i r' hr'
      cases hr : orOp P call N o e s (wantedA ops e.toEnv o) with
      | none => rw [hr] at h; cases h
      | some q =>
        rw [hr] at h
        cases h
        obtain ⟨k1, k2, k3⟩ := orOp_spec hc hr
        refine ⟨⟨k2, k3 _ _ (fun e1 s1 h1 => ?_) (fun v e1 s1 h1 => ?_)⟩, k1⟩
        · subst h1
          exact absurd hr (hr' e1 s1)
        · subst h1
          exact ⟨rfl, rfl, rfl⟩

theorem xFloatB_spec {P : Program} {call : Caller} (hc : CallerOk P call) {N : Nat} {o : Oper} {e : EE} {s : ES} {w : Option Bool} {r : OR} (h : xFloatB P call N o e s w = some r) :
    dstOk N o.dst ∧ ∃ e', r = .on e' s ∧ ∀ K : Env → St → Prop, K e'.toEnv s.toSt → opA P K o e.toEnv s.toSt w := by
  unfold xFloatB at h
  split at h
  · unfold xFloat at h
    split at h
    · rename_i v hv
      obtain ⟨k1, e', rfl, k2⟩ := orVal_self h
      refine ⟨k1, e', rfl, fun K hK => ?_⟩
      rw [k2] at hK
      show opRes P K e.toEnv s.toSt o.dst (evalOp P o e.toEnv s.toSt)
      rw [hv]
      exact hK
    · rename_i f args hv
      unfold xQuiet at h
      split at h
      · rename_i v s2 hcall
        cases hq : (Nat.beq s2.next s.next && Nat.ble s.next s2.lo) with
        | false => rw [hq] at h; cases h
        | true =>
          rw [hq] at h
          rw [Bool.and_eq_true] at hq
          have q1 := Nat.eq_of_beq_eq_true hq.1
          have q2 := Nat.le_of_ble_eq_true hq.2
          obtain ⟨k1, e', rfl, k2⟩ := orVal_self h
          obtain ⟨c1, c2⟩ := hc _ _ _ _ _ hcall
          have hst : s2.toSt = s.toSt := by
            refine St.ext q1 (fun b => ?_) rfl rfl
            by_cases hb : b < s.next
            · exact c2.keep b (by omega) hb
            · rw [es_get, es_get, q1, if_neg hb, if_neg hb]
          refine ⟨k1, e', rfl, fun K hK => ?_⟩
          rw [k2] at hK
          show opRes P K e.toEnv s.toSt o.dst (evalOp P o e.toEnv s.toSt)
          rw [hv]
          refine ⟨v, c1.mono ?_, hK⟩
          rintro x T ⟨rfl, rfl⟩
          exact ⟨rfl, hst⟩
      · cases h
    · cases h
  · obtain ⟨k1, e', rfl, k2⟩ := orVal_self h
    refine ⟨k1, e', rfl, fun K hK => ?_⟩
    rw [k2] at hK
    exact hK
  · cases h

theorem xStab_spec {P : Program} {ops : List Oper} {e : EE} {s : ES} : ∀ {l : List Nat}, xStab P ops e s l = true → stab P ops e.toEnv s.toSt l
  | [], _ => trivial
  | i :: r, h => by
    simp only [xStab, Bool.and_eq_true] at h
    refine ⟨?_, xStab_spec h.2⟩
    have h1 := h.1
    unfold stabOne
    split at h1
    · rename_i o ho
      rw [ho]
      simp only
      cases hd : o.dst with
      | none =>
        unfold xStabOne at h1
        rw [hd] at h1
        split at h1
        · cases h1
        · unfold xStabVal at h1; split at h1 <;> cases h1
        · unfold xStabVal at h1; split at h1 <;> cases h1
      | some d =>
        simp only
        have hv : xStabVal e o.dst (evalOp P o e.toEnv s.toSt) = true → evalOp P o e.toEnv s.toSt = some (.val (e.toEnv.get d) []) := by
          intro hx
          unfold xStabVal at hx
          rw [hd] at hx
          split at hx
          · rename_i v hv
            rw [hv, AV.beq_eq hx]
          · cases hx
        unfold xStabOne at h1
        split at h1
        · rename_i hw; exact .inl hw
        · exact .inr (by rw [hv h1]; rfl)
        · exact .inr (by rw [hv h1]; rfl)
    · cases h1

theorem xPlan_spec {P : Program} {call : Caller} (hc : CallerOk P call) {N : Nat} {ops : List Oper} : ∀ {p : Plan} {e : EE} {s : ES} {r : OR}, xPlan P call N ops p e s = some r →
    ∃ e' s', r = .on e' s' ∧ WPlan P N ops (At .normal e' s') p e.toEnv s.toSt ∧ Gr s s'
  | .done, e, s, r, h => by cases h; exact ⟨e, s, rfl, ⟨rfl, rfl, rfl⟩, .refl s⟩
  | .op i next, e, s, r, h => by
    simp only [xPlan] at h
    simp only [WPlan]
    split at h
    · cases h
    · rename_i o ho
      rw [ho]
      split at h
      · rename_i e1 s1 h1
        obtain ⟨k1, e2, k2, k3⟩ := xFloatB_spec hc h1
        cases k2
        obtain ⟨e', s', rfl, k4, k5⟩ := xPlan_spec hc h
        exact ⟨e', s', rfl, ⟨k1, k3 _ k4⟩, k5⟩
      · cases h
  | .step i chk next .done, e, s, r, h => by
    simp only [xPlan] at h
    simp only [WPlan]
    split at h
    · cases h
    · rename_i o ho
      rw [ho]
      split at h
      · rename_i e1 s1 h1
        unfold xChk at h1
        split at h1
        · rename_i e2 s2 h2
          cases hs : xStab P ops e2 s2 chk with
          | false => rw [hs] at h1; cases h1
          | true =>
            rw [hs] at h1
            cases h1
            obtain ⟨k1, k2, k3⟩ := orOp_spec hc h2
            obtain ⟨e', s', rfl, k4, k5⟩ := xPlan_spec hc h
            refine ⟨e', s', rfl, ⟨.inl rfl, k2, ?_⟩, k1.trans k5⟩
            -- a step is a guarded operation
            have key : ∀ (w : Option Bool) (K : Env → St → Prop) (KA : AV → St → Prop), (∀ v T, K (e.toEnv.setO o.dst v) T → KA v T) → guardK P K (fun x _ _ => match x with | .panic _ => False | _ => True) o e.toEnv s.toSt w →
                stepA P o KA (panK (At .normal e' s')) e.toEnv s.toSt w := by
              intro w K KA hk hg
              match w, hg with
              | some false, hg => exact hk _ _ hg
              | some true, hg =>
                show stepRes P KA _ s.toSt (evalOp P o e.toEnv s.toSt)
                replace hg : resK P K _ e.toEnv s.toSt o.dst (evalOp P o e.toEnv s.toSt) := hg
                cases hev : evalOp P o e.toEnv s.toSt with
                | none => rw [hev] at hg; exact hg.elim
                | some res =>
                  rw [hev] at hg
                  cases res with
                  | val v cm => exact hk _ _ hg
                  | skip cm => exact hk _ _ hg
                  | call f args =>
                    refine WC.mono hg fun x T => ?_
                    cases x with
                    | ret v => exact hk _ _
                    | panic v => exact fun h => h.elim
                  | pan v => exact hg.elim
                  | any l => exact fun p hp => hk _ _ (hg p hp)
            refine key _ (fun E T => stab P ops E T chk ∧ WPlan P N ops (At .normal e' s') next E T) _ (fun v T hh => hh) (k3 _ _ (fun e3 s3 h3 => ?_) (fun v e3 s3 h3 => by cases h3))
            cases h3
            exact ⟨xStab_spec hs, k4⟩
        · cases h1
      · cases h
  | .step i chk next (.op _ _), e, s, r, h => by simp [xPlan] at h
  | .step i chk next (.step _ _ _ _), e, s, r, h => by simp [xPlan] at h

theorem at_thenX {next : Env → St → Prop} {Q : AQ} {x : AX} {e : EE} {s : ES} (h1 : x = .normal → next e.toEnv s.toSt) (h2 : x ≠ .normal → Q x e.toEnv s.toSt) : ∀ y env T, At x e s y env T → thenX next Q y env T := by
  rintro y env T ⟨rfl, rfl, rfl⟩
  cases y with
  | normal => exact h1 rfl
  | exit i => exact h2 (by simp)
  | ret => exact h2 (by simp)
  | panic v => exact h2 (by simp)

theorem xLoop_spec {P : Program} {N : Nat} {c : Code} {body : EE → ES → XR} (hb : ∀ e s x e' s', body e s = some (x, e', s') → WCode P N c (At x e' s') e.toEnv s.toSt ∧ Gr s s') : ∀ {n : Nat} {e : EE} {s : ES} {x : AX} {e' : EE} {s' : ES},
    xLoop body n e s = some (x, e', s') → WLoop P N c (At x e' s') e.toEnv s.toSt ∧ Gr s s'
  | 0, _, _, _, _, _, h => by simp [xLoop] at h
  | n + 1, e, s, x, e', s', h => by
    simp only [xLoop] at h
    split at h
    · rename_i e1 s1 h1
      obtain ⟨k1, k2⟩ := hb _ _ _ _ _ h1
      obtain ⟨k3, k4⟩ := xLoop_spec hb h
      refine ⟨wloop_round (wcode_mono k1 (at_thenX (fun _ => k3) (fun hn => absurd rfl hn))), k2.trans k4⟩
    · rename_i r hr
      obtain ⟨k1, k2⟩ := hb _ _ _ _ _ h
      refine ⟨wloop_round (wcode_mono k1 (at_thenX (fun hx => ?_) (fun hn => ⟨rfl, rfl, rfl⟩))), k2⟩
      subst hx
      exact absurd h (hr e' s')

theorem xCode_spec {P : Program} (hm : P.follows .mixedOrders = true) {pl : Pl} {call : Caller} (hc : CallerOk P call) {N fuel : Nat} : ∀ {c : Code} {e : EE} {s : ES} {x : AX} {e' : EE} {s' : ES}, codeOk pl c = true →
    xCode P pl call N fuel c e s = some (x, e', s') → WCode P N c (At x e' s') e.toEnv s.toSt ∧ Gr s s'
  | .skip, e, s, x, e', s', _, h => by cases h; exact ⟨⟨rfl, rfl, rfl⟩, .refl s⟩
  | .region id ops false, e, s, x, e', s', _, h => by
    simp only [xCode] at h
    unfold ofOR at h
    split at h
    · rename_i e1 s1 h1
      cases h
      obtain ⟨k1, k2⟩ := xOps_spec hc h1
      exact ⟨k1, k2⟩
    · rename_i v e1 s1 h1
      cases h
      obtain ⟨k1, k2⟩ := xOps_spec hc h1
      exact ⟨k1, k2⟩
    · cases h
  | .region id ops true, e, s, x, e', s', hp, h => by
    simp only [xCode] at h
    simp only [codeOk] at hp
    split at h
    · rename_i p hpl
      rw [hpl] at hp
      simp only [Bool.and_eq_true] at hp
      unfold ofOR at h
      split at h
      · rename_i e1 s1 h1
        cases h
        obtain ⟨e2, s2, k0, k1, k2⟩ := xPlan_spec hc h1
        cases k0
        exact ⟨wdraw_plan _ _ hm hp.1 hp.2 k1, k2⟩
      · rename_i v e1 s1 h1
        obtain ⟨e2, s2, k0, _⟩ := xPlan_spec hc h1
        cases k0
      · cases h
    · cases h
  | .seq a b, e, s, x, e', s', hp, h => by
    simp only [codeOk, Bool.and_eq_true] at hp
    simp only [xCode] at h
    split at h
    · rename_i e1 s1 h1
      obtain ⟨k1, k2⟩ := xCode_spec hm hc hp.1 h1
      obtain ⟨k3, k4⟩ := xCode_spec hm hc hp.2 h
      exact ⟨by rw [wcode_seq]; exact wcode_mono k1 (at_thenX (fun _ => k3) (fun hn => absurd rfl hn)), k2.trans k4⟩
    · rename_i r hr
      obtain ⟨k1, k2⟩ := xCode_spec hm hc hp.1 h
      rw [wcode_seq]
      refine ⟨wcode_mono k1 (at_thenX (fun hx => ?_) (fun hn => ⟨rfl, rfl, rfl⟩)), k2⟩
      subst hx
      exact absurd h (hr e' s')
  | .cond t a b, e, s, x, e', s', hp, h => by
    simp only [codeOk, Bool.and_eq_true] at hp
    simp only [xCode] at h
    simp only [WCode]
    split at h
    · rename_i ht
      rw [ht]
      exact xCode_spec hm hc hp.1 h
    · rename_i ht
      rw [ht]
      exact xCode_spec hm hc hp.2 h
    · cases h
  | .block id c, e, s, x, e', s', hp, h => by
    simp only [codeOk] at hp
    simp only [xCode] at h
    split at h
    · rename_i j e1 s1 h1
      obtain ⟨k1, k2⟩ := xCode_spec hm hc hp h1
      rw [wcode_block]
      rw [bif_beq] at h
      split at h
      · rename_i hj
        cases h
        refine ⟨wcode_mono k1 ?_, k2⟩
        rintro y env T ⟨rfl, rfl, rfl⟩
        simp only [blockX, hj, if_true]
        exact ⟨rfl, rfl, rfl⟩
      · rename_i hj
        cases h
        refine ⟨wcode_mono k1 ?_, k2⟩
        rintro y env T ⟨rfl, rfl, rfl⟩
        simp only [blockX, hj, if_false]
        exact ⟨rfl, rfl, rfl⟩
    · rename_i r hr
      obtain ⟨k1, k2⟩ := xCode_spec hm hc hp h
      rw [wcode_block]
      refine ⟨wcode_mono k1 ?_, k2⟩
      rintro y env T ⟨rfl, rfl, rfl⟩
      cases y with
      | exit j => exact absurd h (hr j e' s')
      | _ => exact ⟨rfl, rfl, rfl⟩
  | .loop c, e, s, x, e', s', hp, h => by
    simp only [codeOk] at hp
    simp only [xCode] at h
    exact xLoop_spec (fun e s x e' s' h => xCode_spec hm hc hp h) h
  | .exit id, e, s, x, e', s', _, h => by cases h; exact ⟨⟨rfl, rfl, rfl⟩, .refl s⟩
  | .ret, e, s, x, e', s', _, h => by cases h; exact ⟨⟨rfl, rfl, rfl⟩, .refl s⟩
  | .rangeFunc _ _ _ _, _, _, _, _, _, _, h => by simp [xCode] at h
  | .scope _, _, _, _, _, _, _, h => by simp [xCode] at h
  | .label _, _, _, _, _, _, _, h => by simp [xCode] at h
  | .goto _, _, _, _, _, _, _, h => by simp [xCode] at h
  | .refuse _, _, _, _, _, _, _, h => by simp [xCode] at h

theorem gr_back {s s1 : ES} (h : Gr { s with lo := s.next } s1) : Gr s { s1 with lo := bif Nat.blt s1.lo s.lo then s1.lo else s.lo } := by
  have hlo : (bif Nat.blt s1.lo s.lo then s1.lo else s.lo) ≤ s.lo ∧ (bif Nat.blt s1.lo s.lo then s1.lo else s.lo) ≤ s1.lo := by
    rw [blt_dec]
    by_cases h : s1.lo < s.lo
    · simp [h]; omega
    · simp [h]; omega
  refine ⟨h.next, hlo.1, fun b h1 h2 => ?_⟩
  have := h.keep b (Nat.lt_of_lt_of_le h1 hlo.2) h2
  exact this

theorem xEnd_spec {P : Program} {s s1 : ES} (h : Gr { s with lo := s.next } s1) (hS : Shut s.toSt) {v : AV} {x : CX} {s' : ES} (he : xEnd s v s1 = (x, s')) :
    ends P s.toSt.next (fun y T => y = x ∧ T = s'.toSt) v s1.toSt ∧ Gr s s' := by
  unfold xEnd at he
  cases hc : (Nat.ble s.next s1.lo && v.under s.next 4) with
  | false =>
    rw [hc] at he
    cases he
    exact ⟨ends_now ⟨rfl, rfl⟩, gr_back h⟩
  | true =>
    rw [hc] at he
    cases he
    rw [Bool.and_eq_true] at hc
    have hlo := Nat.le_of_ble_eq_true hc.1
    have hk : ∀ b, b < s.next → s1.toSt.get b = s.toSt.get b := fun b hb => h.keep b (by omega) hb
    refine ⟨ends_pop hc.2 ⟨fun b o hb ho => hS.2.1 b o hb (by rw [hk b hb] at ho; exact ho), fun t ht => by cases ht⟩ ⟨rfl, ?_⟩, .refl s⟩
    refine St.ext rfl (fun b => ?_) rfl rfl
    show (bif Nat.blt b s.next then s1.toSt.get b else none) = s.toSt.get b
    rw [blt_dec]
    by_cases hb : b < s.next
    · simp [hb, hk b hb]
    · simp [hb, es_get]

theorem xBody_spec {P : Program} {fn : Func} {s : ES} (hS : Shut s.toSt) {X : XR} {x : CX} {s' : ES} (h : xBody P fn.results.toList s X = some (x, s')) :
    ∃ y e1 s1, X = some (y, e1, s1) ∧ (Gr { s with lo := s.next } s1 → bodyR P fn.results.toList s.toSt.next (fun y T => y = x ∧ T = s'.toSt) y e1.toEnv s1.toSt ∧ Gr s s') := by
  have key : ∀ {e1 : EE} {s1 : ES} {l : List AV}, resAs P e1.toEnv s1.toSt fn.results.toList = some l → xEnd s (oneOrTup l) s1 = (x, s') → Gr { s with lo := s.next } s1 →
      endR P s.toSt.next (fun y T => y = x ∧ T = s'.toSt) s1.toSt (resAs P e1.toEnv s1.toSt fn.results.toList) ∧ Gr s s' := by
    intro e1 s1 l hl he hg
    obtain ⟨k1, k2⟩ := xEnd_spec (P := P) hg hS he
    rw [hl]
    match l, k1 with
    | [], k1 => exact ⟨k1, k2⟩
    | [v], k1 => exact ⟨k1, k2⟩
    | a :: b :: r, k1 => exact ⟨k1, k2⟩
  unfold xBody at h
  split at h
  · rename_i e1 s1
    split at h
    · rename_i l hl
      refine ⟨.normal, e1, s1, rfl, fun hg => key hl (Option.some.inj h) hg⟩
    · cases h
  · rename_i e1 s1
    split at h
    · rename_i l hl
      refine ⟨.ret, e1, s1, rfl, fun hg => key hl (Option.some.inj h) hg⟩
    · cases h
  · rename_i v e1 s1
    cases h
    exact ⟨.panic v, e1, s1, rfl, fun hg => ⟨⟨rfl, rfl⟩, gr_back hg⟩⟩
  · cases h

/-- The functions that are known otherwise, are known rightly. -/
def ExtOk (P : Program) (ext : FuncId → List AV → ES → Ext1) : Prop :=
  ∀ f args s x s', ext f args s = .yes (some (x, s')) → WC P f args (fun y T => y = x ∧ T = s'.toSt) s.toSt ∧ Gr s s'

theorem gr_end {s s1 s' : ES} {v : AV} {x : CX} (hg : Gr { s with lo := s.next } s1) (he : xEnd s v s1 = (x, s')) : Gr s s' := by
  unfold xEnd at he
  cases hc : (Nat.ble s.next s1.lo && v.under s.next 4) with
  | false => rw [hc] at he; cases he; exact gr_back hg
  | true => rw [hc] at he; cases he; exact .refl s

theorem xCall_spec {P : Program} (hm : P.follows .mixedOrders = true) {pl : Nat → Pl} {ext : FuncId → List AV → ES → Ext1} (hx : ExtOk P ext) {fuel : Nat} : ∀ d, CallerOk P (xCall P pl ext fuel d)
  | 0, f, args, s, x, s', h => by simp [xCall] at h
  | d + 1, f, args, s, x, s', h => by
    simp only [xCall] at h
    unfold xCallD at h
    split at h
    · rename_i r hr
      subst h
      exact hx _ _ _ _ _ hr
    · split at h
      · rename_i fn hf
        unfold xFn at h
        split at h
        · rename_i c hb
          cases hg : (Nat.ble args.length fn.ntmps && codeOk (pl f) c && !(fn.name == "runtime.NumGoroutine")) with
          | false => rw [hg] at h; cases h
          | true =>
            rw [hg] at h
            simp only [Bool.and_eq_true, Bool.not_eq_true'] at hg
            simp only [cond_true] at h
            split at h
            · rename_i e0 he0
              have hh : Shut s.toSt → WCode P fn.ntmps c (bodyR P fn.results.toList s.toSt.next (fun y T => y = x ∧ T = s'.toSt)) (envOf args 0) s.toSt ∧ Gr s s' := by
                intro hS
                obtain ⟨y, e1, s1, k1, k2⟩ := xBody_spec (P := P) (fn := fn) hS h
                obtain ⟨k3, k4⟩ := xCode_spec hm (xCall_spec hm hx d) hg.1.2 k1
                obtain ⟨k5, k6⟩ := k2 k4
                rw [argsT_env he0] at k3
                refine ⟨wcode_mono k3 ?_, k6⟩
                rintro y' env T ⟨rfl, rfl, rfl⟩
                exact k5
              refine ⟨wc_fn hf hg.2 hb rfl rfl hg.1.1 fun hS => (hh hS).1, ?_⟩
              -- what it says of the memory does not hang on the state's being shut
              obtain ⟨y, e1, s1, k1, k2⟩ : ∃ y e1 s1, xCode P (pl f) (xCall P pl ext fuel d) fn.ntmps fuel c e0 { s with lo := s.next } = some (y, e1, s1) ∧ (Gr { s with lo := s.next } s1 → Gr s s') := by
                unfold xBody at h
                split at h
                · rename_i e1 s1 hX
                  split at h
                  · refine ⟨_, _, _, hX, fun hg => gr_end hg (Option.some.inj h)⟩
                  · cases h
                · rename_i e1 s1 hX
                  split at h
                  · refine ⟨_, _, _, hX, fun hg => gr_end hg (Option.some.inj h)⟩
                  · cases h
                · rename_i v e1 s1 hX
                  cases h
                  exact ⟨_, _, _, hX, fun hg => gr_back hg⟩
                · cases h
              obtain ⟨_, k4⟩ := xCode_spec hm (xCall_spec hm hx d) hg.1.2 k1
              exact k2 k4
            · cases h
        · cases h
      · cases h

end Go.Abs
