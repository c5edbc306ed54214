/-
  The abstract machine, part Y: numbers, letters.
-/
import Derived.Test.YtnnbhfoimaodhaaAbsX
namespace Go.Abs
set_option linter.unusedVariables false
set_option linter.unusedSimpArgs false

theorem wrap_i64 (n : Int) (h0 : -9223372036854775808 ≤ n) (h1 : n ≤ 9223372036854775807) : IntKind.i64.wrap n = n := IntWalk.i64_in n ⟨h0, h1⟩
theorem wrap_i32 (n : Int) (h0 : -2147483648 ≤ n) (h1 : n ≤ 2147483647) : IntKind.i32.wrap n = n := by
  simp [IntKind.wrap, IntKind.bits, IntKind.signed]
  omega
theorem wrap_u8_mod (n : Int) : IntKind.u8.wrap n = n % 256 := by simp [IntKind.wrap, IntKind.bits, IntKind.signed]
theorem wrap_u8 (n : Int) (h0 : 0 ≤ n) (h1 : n ≤ 255) : IntKind.u8.wrap n = n := by rw [wrap_u8_mod]; omega

theorem encode_small (n : Int) (h0 : 0 ≤ n) (h1 : n < 128) : (Utf8.encode n).data.toList = [UInt8.ofNat n.toNat] := by
  have hv : Utf8.valid n = true := by
    simp only [Utf8.valid]
    simp only [Bool.and_eq_true, Bool.or_eq_true, decide_eq_true_eq, Bool.not_eq_true', decide_eq_false_iff_not]
    omega
  simp only [Utf8.encode, hv, if_true]
  rw [if_pos (by omega)]

section
variable {P : Program} {K : Env → St → Prop} {Q : AQ} {o : Oper} {env : Env} {S : St} {KA Pan : AV → St → Prop} {A C : Env → St → Prop} {b : Bool}
theorem guardK_split (h1 : b = true → guardK P K Q o env S (some true)) (h2 : b = false → guardK P K Q o env S (some false)) : guardK P K Q o env S (some b) := by
  cases b with
  | true => exact h1 rfl
  | false => exact h2 rfl
theorem guardK_split_not (h1 : b = false → guardK P K Q o env S (some true)) (h2 : b = true → guardK P K Q o env S (some false)) : guardK P K Q o env S (some (!b)) := by
  cases b with
  | true => exact h2 rfl
  | false => exact h1 rfl
theorem opA_split_not (h1 : b = false → opA P K o env S (some true)) (h2 : b = true → opA P K o env S (some false)) : opA P K o env S (some (!b)) := by
  cases b with
  | true => exact h2 rfl
  | false => exact h1 rfl
theorem stepA_split_not (h1 : b = false → stepA P o KA Pan env S (some true)) (h2 : b = true → stepA P o KA Pan env S (some false)) : stepA P o KA Pan env S (some (!b)) := by
  cases b with
  | true => exact h2 rfl
  | false => exact h1 rfl
theorem condK_split_not (h1 : b = false → condK A C env S (some (.c (.bool true)))) (h2 : b = true → condK A C env S (some (.c (.bool false)))) : condK A C env S (some (.c (.bool (!b)))) := by
  cases b with
  | true => exact h2 rfl
  | false => exact h1 rfl
theorem opA_split (h1 : b = true → opA P K o env S (some true)) (h2 : b = false → opA P K o env S (some false)) : opA P K o env S (some b) := by
  cases b with
  | true => exact h1 rfl
  | false => exact h2 rfl
theorem stepA_split (h1 : b = true → stepA P o KA Pan env S (some true)) (h2 : b = false → stepA P o KA Pan env S (some false)) : stepA P o KA Pan env S (some b) := by
  cases b with
  | true => exact h1 rfl
  | false => exact h2 rfl
theorem condK_split (h1 : b = true → condK A C env S (some (.c (.bool true)))) (h2 : b = false → condK A C env S (some (.c (.bool false)))) : condK A C env S (some (.c (.bool b))) := by
  cases b with
  | true => exact h1 rfl
  | false => exact h2 rfl
end

theorem guardK_mono {P : Program} {K K' : Env → St → Prop} {Q Q' : AQ} {o : Oper} {env : Env} {S : St} {b : Option Bool} (h : guardK P K Q o env S b) (hk : ∀ e S, K e S → K' e S) (hq : ∀ x e S, Q x e S → Q' x e S) :
    guardK P K' Q' o env S b := by
  match b, h with
  | some false, h => exact hk _ _ h
  | some true, h =>
    show resK P K' Q' env S o.dst (evalOp P o env S)
    have h : resK P K Q env S o.dst (evalOp P o env S) := h
    cases he : evalOp P o env S with
    | none => rw [he] at h; exact h.elim
    | some r =>
      rw [he] at h
      cases r with
      | val v cm => exact hk _ _ h
      | skip cm => exact hk _ _ h
      | call f args =>
        refine WC.mono h fun x S' => ?_
        cases x with
        | ret v => exact hk _ _
        | panic v => exact hq _ _ _
      | pan v => exact hq _ _ _ h
      | any l => exact fun p hp => hk _ _ (h p hp)

theorem wops_mono {P : Program} {N : Nat} {ops : List Oper} {Q Q' : AQ} (hq : ∀ x e S, Q x e S → Q' x e S) : ∀ {rest : List Oper} {env : Env} {S : St}, WOps P N ops Q rest env S → WOps P N ops Q' rest env S
  | [], _, _, h => hq _ _ _ h
  | o :: rest, _, _, h => ⟨h.1, guardK_mono h.2 (fun _ _ => wops_mono hq) hq⟩

/-- A cut: what follows the region needs only what 'M' says. -/
theorem guardK_cut {P : Program} {N : Nat} {ops rest : List Oper} {next : Env → St → Prop} {Q : AQ} {o : Oper} {env : Env} {S : St} {b : Option Bool} (M : Env → St → Prop)
    (h : guardK P (WOps P N ops (thenX M Q) rest) (thenX M Q) o env S b) (hn : ∀ e S, M e S → next e S) : guardK P (WOps P N ops (thenX next Q) rest) (thenX next Q) o env S b := by
  have hq : ∀ x e S, thenX M Q x e S → thenX next Q x e S := fun x e S h => by
    cases x with
    | normal => exact hn _ _ h
    | _ => exact h
  exact guardK_mono h (fun _ _ => wops_mono hq) hq

theorem condK_mono {A A' C C' : Env → St → Prop} {env : Env} {S : St} {b : Option AV} (h : condK A C env S b) (ha : ∀ e S, A e S → A' e S) (hc : ∀ e S, C e S → C' e S) : condK A' C' env S b := by
  unfold condK at *
  split at h
  · exact ha _ _ h
  · exact hc _ _ h
  · exact h.elim

theorem wcode_mono {P : Program} {N : Nat} : ∀ {c : Code} {Q Q' : AQ} {env : Env} {S : St}, WCode P N c Q env S → (∀ x e S, Q x e S → Q' x e S) → WCode P N c Q' env S
  | .skip, _, _, _, _, h, hq => hq _ _ _ h
  | .region id ops false, _, _, _, _, h, hq => wops_mono hq h
  | .region id ops true, _, _, _, _, h, hq => W.mono h hq
  | .seq x y, _, _, _, _, h, hq => wcode_mono (c := x) h fun z e S hz => by
      cases z with
      | normal => exact wcode_mono (c := y) hz hq
      | _ => exact hq _ _ _ hz
  | .cond c x y, _, _, _, _, h, hq => condK_mono h (fun _ _ h => wcode_mono (c := x) h hq) (fun _ _ h => wcode_mono (c := y) h hq)
  | .block id c, Q, Q', _, _, h, hq => wcode_mono (c := c) h fun z e S hz => by
      cases z with
      | exit j =>
        simp only [blockX] at *
        split at hz
        · rw [if_pos ‹_›]; exact hq _ _ _ hz
        · rw [if_neg ‹_›]; exact hq _ _ _ hz
      | _ => exact hq _ _ _ hz
  | .loop c, _, _, _, _, h, hq => WLoop.mono h hq
  | .exit id, _, _, _, _, h, hq => hq _ _ _ h
  | .ret, _, _, _, _, h, hq => hq _ _ _ h
  | .rangeFunc _ _ _ _, _, _, _, _, h, _ => h.elim
  | .scope _, _, _, _, _, h, _ => h.elim
  | .label _, _, _, _, _, h, _ => h.elim
  | .goto _, _, _, _, _, h, _ => h.elim
  | .refuse _, _, _, _, _, h, _ => h.elim

theorem thenX_cut {M next : Env → St → Prop} {Q : AQ} (hn : ∀ e S, M e S → next e S) : ∀ x e S, thenX M Q x e S → thenX next Q x e S := fun x e S h => by
  cases x with
  | normal => exact hn _ _ h
  | _ => exact h

/-- A cut behind a condition. -/
theorem condK_cut {P : Program} {N : Nat} {x y : Code} {next : Env → St → Prop} {Q : AQ} {env : Env} {S : St} {b : Option AV} (M : Env → St → Prop)
    (h : condK (WCode P N x (thenX M Q)) (WCode P N y (thenX M Q)) env S b) (hn : ∀ e S, M e S → next e S) : condK (WCode P N x (thenX next Q)) (WCode P N y (thenX next Q)) env S b :=
  condK_mono h (fun _ _ h => wcode_mono h (thenX_cut hn)) (fun _ _ h => wcode_mono h (thenX_cut hn))

/-- A cut behind a region of open order. -/
theorem wdraw_cut {P : Program} {N id : Nat} {ops : Array Oper} {next : Env → St → Prop} {Q : AQ} {env : Env} {S : St} (M : Env → St → Prop) (h : WDraw P N id ops (thenX M Q) env S) (hn : ∀ e S, M e S → next e S) :
    WDraw P N id ops (thenX next Q) env S := W.mono h (thenX_cut hn)

/-- A loop with a measure. -/
theorem wloop_meas {P : Program} {N : Nat} {c : Code} {Q : AQ} (I : Nat → Env → St → Prop) (h : ∀ n e S, I n e S → WCode P N c (thenX (fun e' S' => ∃ m, m < n ∧ I m e' S') Q) e S) :
    ∀ n e S, I n e S → WLoop P N c Q e S := by
  intro n
  induction n using Nat.strongRecOn with
  | _ n ih =>
    intro e S hI
    refine wloop_unfold ((wcode_sound (h n e S hI)).mono fun x e' S' hx => ?_)
    cases x with
    | normal =>
      obtain ⟨m, hm, hI'⟩ := hx
      exact ih m hm e' S' hI'
    | _ => exact hx

theorem ne_up1 (n : Nat) : (n + 1 = n) = False := by simp
theorem ne_dn1 (n : Nat) : (n = n + 1) = False := by simp
theorem ne_up2 (n : Nat) : (n + 2 = n) = False := by simp
theorem ne_dn2 (n : Nat) : (n = n + 2) = False := by simp
theorem ne_up3 (n : Nat) : (n + 3 = n) = False := by simp
theorem ne_dn3 (n : Nat) : (n = n + 3) = False := by simp
theorem ne_up4 (n : Nat) : (n + 4 = n) = False := by simp
theorem ne_dn4 (n : Nat) : (n = n + 4) = False := by simp
theorem ne_up5 (n : Nat) : (n + 5 = n) = False := by simp
theorem ne_dn5 (n : Nat) : (n = n + 5) = False := by simp
theorem ne_up6 (n : Nat) : (n + 6 = n) = False := by simp
theorem ne_dn6 (n : Nat) : (n = n + 6) = False := by simp
theorem put_put (S : St) (b : Nat) (o o' : Ob) : (S.put b o).put b o' = S.put b o' := by
  refine St.ext rfl (fun b' => ?_) rfl rfl
  simp only [St.put]
  cases Nat.beq b b' <;> rfl
theorem put_new (S : St) (o o' : Ob) : (S.new o).put S.next o' = S.new o' := by
  refine St.ext rfl (fun b' => ?_) rfl rfl
  simp only [St.put, St.new]
  cases Nat.beq S.next b' <;> rfl

theorem tmod_nat (n m : Nat) : Int.tmod (n : Int) (m : Int) = ((n % m : Nat) : Int) := rfl
theorem tdiv_nat (n m : Nat) : Int.tdiv (n : Int) (m : Int) = ((n / m : Nat) : Int) := rfl
theorem tmod_pos (n m : Int) (h : 0 ≤ n) : Int.tmod n m = n % m := Int.tmod_eq_emod_of_nonneg h
theorem tdiv_pos (n m : Int) (h : 0 ≤ n) : Int.tdiv n m = n / m := Int.tdiv_eq_ediv_of_nonneg h

theorem allSize_strs (l : List (List UInt8)) : allSize 1 (l.map .str) = true := by
  induction l with
  | nil => rfl
  | cons x r ih => simp [allSize, ih, FV.cells]

/-- A state that has come from another one by making new objects, and by changing these alone. -/
structure Fwd (S S' : St) : Prop where
  next : S.next ≤ S'.next
  ok : PopOk S.next S'
  pop : S'.pop S.next = S

theorem Fwd.refl {S : St} (h : Shut S) : Fwd S S := ⟨Nat.le_refl _, h.2, pop_self h.1⟩
theorem Fwd.new {S S' : St} (h : Fwd S S') (o : Ob) : Fwd S (S'.new o) :=
  ⟨by have := h.next; rw [next_new]; omega, popOk_new h.next h.ok, by rw [pop_new h.next, h.pop]⟩
theorem Fwd.put {S S' : St} (h : Fwd S S') {b : Nat} (hb : S.next ≤ b) (o : Ob) : Fwd S (S'.put b o) :=
  ⟨h.next, popOk_put_ge hb h.ok, by rw [pop_put hb, h.pop]⟩
theorem ends_fwd {P : Program} {R : CX → St → Prop} {v : AV} {S S' : St} (h : Fwd S S') (hv : v.under S.next 4 = true) (hR : R (.ret v) S) : ends P S.next R v S' :=
  ends_popped hv h.ok h.pop hR
theorem ends_fwd_row {P : Program} {R : CX → St → Prop} {S S' : St} {b off len s : Nat} {full : Bool} {cs : List AV} {ro : Nat} {T : TypeId} {ag : Bool} {l : List FV} (h : Fwd S S') (hg : S'.get b = some (.blk cs ro T)) (hag : isAggT P T = some ag)
    (hsz : szT P T = some s) (hl : allPure cs = some l) (hc : off + len * s ≤ cs.length) (h1 : ag = false → s = 1) (hb : S.next ≤ b)
    (hR : R (.ret (.c (.sl (unflat ag s len (l.drop off))))) S) : ends P S.next R (.sl b off len s full) S' :=
  ends_freeze (freeze_row hg hag hsz hl hc h1) rfl (popOk_put_ge hb h.ok) (by rw [pop_put hb, h.pop]; exact hR)

end Go.Abs
