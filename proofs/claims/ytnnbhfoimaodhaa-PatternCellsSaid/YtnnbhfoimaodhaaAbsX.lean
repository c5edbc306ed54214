/-
  The abstract machine, part X: calls of which a contract is known on the model's side.
-/
import Derived.Test.YtnnbhfoimaodhaaAbsW
import Derived.Below
namespace Go.Abs
open Go.RowKit
set_option linter.unusedVariables false
set_option linter.unusedSimpArgs false

theorem cell_below {w w' : World} (hb : Below w.heap.size w w') {a : Addr} {v : Value} (h : w.cell? a = some v) : w'.cell? a = some v := by
  have hlt : a.block < w.heap.size := by
    rcases Nat.lt_or_ge a.block w.heap.size with h1 | h1
    · exact h1
    · unfold World.cell? at h; rw [Array.getElem?_eq_none h1] at h; cases h
  unfold World.cell? at h ⊢
  rwa [hb.block _ hlt]

theorem heap_lt {w : World} {g : Nat} {o : Obj} (h : w.heap[g]? = some o) : g < w.heap.size := (Array.getElem?_eq_some_iff.1 h).1

theorem inv_below {G : Gh} {S : St} {w w' : World} (h : Inv G S w) (hb : Below w.heap.size w w') : Inv G S w' ∧ Ext G S w G S w' := by
  have keep : ∀ {g o}, w.heap[g]? = some o → w'.heap[g]? = some o := fun ho => by rw [hb.block _ (heap_lt ho)]; exact ho
  refine ⟨⟨h.wf, fun g o v hv => cell_below hb (h.cells g o v hv), ?_, h.apart, ?_, h.tags, h.nodup, h.fresh, fun b B hB => Nat.lt_of_lt_of_le (h.born b B hB) hb.size⟩,
    ⟨.refl G, Nat.le_refl _, hb.size, fun g hg _ => hb.block g hg, fun g ho => .inl ho, hb.os, hb.tape, hb.output⟩⟩
  · intro b ob hob hl
    obtain ⟨B, hB, hr⟩ := h.obs b ob hob hl
    refine ⟨B, hB, ?_⟩
    cases ob with
    | blk cs ro T =>
      obtain ⟨k1, k2, C, T', lo, hi, k3, k4⟩ := hr
      exact ⟨k1, k2, C, T', lo, hi, keep k3, k4⟩
    | map es bs ck =>
      obtain ⟨es', k1, k2⟩ := hr
      exact ⟨es', keep k1, k2⟩
    | siter s pos => exact ⟨keep hr.1, hr.2⟩
    | miter m ck seen =>
      obtain ⟨⟨Bm, k1, k2⟩, k3⟩ := hr
      exact ⟨⟨Bm, k1, keep k2⟩, k3⟩
    | niter => exact ⟨keep hr.1, hr.2⟩
    | dead => trivial
  · intro t ht
    obtain ⟨g, st, en, s, k1, ⟨C, T, lo, hi, k2, k3⟩, k4⟩ := h.spare t ht
    exact ⟨g, st, en, s, k1, ⟨C, T, lo, hi, keep k2, k3⟩, k4⟩

theorem wc_calls {P : Program} {f : FuncId} {args : List AV} {v : AV} {S : St} (hrun : ∀ vals w, Sem.run P (callFunc f vals) w = .ok (.enter f vals) w)
    (h : ∀ G (vals : List Value) w, RelL G args vals → Inv G S w → Calls P f vals.toArray w fun e w' => ∃ x, e = .returned x ∧ RelA G v x ∧ Below w.heap.size w w') : WC P f args (Is v S) S := by
  intro G vals w hr hI
  unfold Upon
  rw [hrun]
  refine Calls.mono (h G vals w hr hI) ?_
  rintro e w' ⟨x, rfl, hx, hb⟩
  obtain ⟨k1, k2⟩ := inv_below hI hb
  exact ⟨.ret v, S, G, ⟨rfl, rfl⟩, hx, k1, k2⟩

theorem relL_one {G : Gh} {a : AV} {vs : List Value} (h : RelL G [a] vs) : ∃ x, vs = [x] ∧ RelA G a x := by
  match vs, h with
  | [x], h => exact ⟨x, rfl, h.rel 0 _ _ rfl rfl⟩
  | [], h => have := h.len; simp at this
  | _ :: _ :: _, h => have := h.len; simp at this

theorem relL_two {G : Gh} {a b : AV} {vs : List Value} (h : RelL G [a, b] vs) : ∃ x y, vs = [x, y] ∧ RelA G a x ∧ RelA G b y := by
  match vs, h with
  | [x, y], h => exact ⟨x, y, rfl, h.rel 0 _ _ rfl rfl, h.rel 1 _ _ rfl rfl⟩
  | [], h => have := h.len; simp at this
  | [_], h => have := h.len; simp at this
  | _ :: _ :: _ :: _, h => have := h.len; simp at this

theorem rel_str {G : Gh} {l : List UInt8} {x : Value} (h : RelA G (.c (.str l)) x) : x = .string ⟨l.toArray⟩ := by
  cases h with
  | c h => cases h; rfl

theorem rel_int {G : Gh} {k : IntKind} {n : Int} {x : Value} (h : RelA G (.c (.int k n)) x) : x = .int k n := by
  cases h with
  | c h => cases h; rfl

theorem str_rel (G : Gh) (l : List UInt8) : RelA G (.c (.str l)) (.string ⟨l.toArray⟩) := .c (.str ⟨l.toArray⟩)

theorem popOk_put_ge {S : St} {B b : Nat} {o : Ob} (h : B ≤ b) (hp : PopOk B S) : PopOk B (S.put b o) := popOk_put (.inl h) hp

theorem freeze_row {P : Program} {S : St} {b off len s : Nat} {full : Bool} {cs : List AV} {ro : Nat} {T : TypeId} {ag : Bool} {l : List FV} (hg : S.get b = some (.blk cs ro T)) (hag : isAggT P T = some ag)
    (hsz : szT P T = some s) (hl : allPure cs = some l) (hc : off + len * s ≤ cs.length) (h1 : ag = false → s = 1) :
    freezeA P (.sl b off len s full) S = (.c (.sl (unflat ag s len (l.drop off))), S.put b .dead) := by
  have : freezeRow P b off len s S = some (.sl (unflat ag s len (l.drop off))) := by
    simp only [freezeRow, hg, hag, hsz, hl]
    rw [if_pos ⟨trivial, hc, h1⟩]
  simp only [freezeA, freezeP, freezeV, this]

theorem ends_row {P : Program} {B : Nat} {R : CX → St → Prop} {S : St} {b off len s : Nat} {full : Bool} {cs : List AV} {ro : Nat} {T : TypeId} {ag : Bool} {l : List FV} (hg : S.get b = some (.blk cs ro T)) (hag : isAggT P T = some ag)
    (hsz : szT P T = some s) (hl : allPure cs = some l) (hc : Nat.ble (off + len * s) cs.length = true) (h1 : ag = false → s = 1) (hb : B ≤ b) (hp : PopOk B S)
    (h : R (.ret (.c (.sl (unflat ag s len (l.drop off))))) (S.pop B)) : ends P B R (.sl b off len s full) S :=
  ends_freeze (freeze_row hg hag hsz hl (Nat.le_of_ble_eq_true hc) h1) rfl (popOk_put_ge hb hp) (by rw [pop_put hb]; exact h)

theorem ends_popped {P : Program} {B : Nat} {R : CX → St → Prop} {v : AV} {S S0 : St} (h1 : v.under B 4 = true) (h2 : PopOk B S) (hS : S.pop B = S0) (h : R (.ret v) S0) : ends P B R v S :=
  ends_pop h1 h2 (by rw [hS]; exact h)

end Go.Abs
