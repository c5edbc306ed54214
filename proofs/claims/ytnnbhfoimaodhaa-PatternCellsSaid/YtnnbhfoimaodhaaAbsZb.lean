/-
  The abstract machine, part Zb: closed runs hold from every state.
-/
import Derived.Test.YtnnbhfoimaodhaaAbsZa
namespace Go.Abs
set_option linter.unusedVariables false
set_option linter.unusedSimpArgs false

mutual
/-- No rows: nothing that lies in memory. -/
def FV.plain : FV → Bool
  | .sl _ => false
  | .agg cs => FV.plains cs
  | .iface _ v => v.plain
  | _ => true
def FV.plains : List FV → Bool
  | [] => true
  | x :: r => x.plain && FV.plains r
end

theorem plains_mem : ∀ {l : List FV}, FV.plains l = true → ∀ {i : Nat} {a : FV}, l[i]? = some a → a.plain = true
  | [], _, i, a, h => by simp at h
  | x :: r, hp, i, a, h => by
    simp only [FV.plains, Bool.and_eq_true] at hp
    cases i with
    | zero => simp at h; subst h; exact hp.1
    | succ i => exact plains_mem hp.2 (by simpa using h)

theorem relF_plain {F F' : Nat → Nat → Option Value} {v : FV} {x : Value} (h : RelF F v x) : v.plain = true → RelF F' v x := by
  induction h with
  | bool b => exact fun _ => .bool b
  | int k n => exact fun _ => .int k n
  | str s => exact fun _ => .str s
  | nilp => exact fun _ => .nilp
  | nils => exact fun _ => .nils
  | nilm => exact fun _ => .nilm
  | nilf => exact fun _ => .nilf
  | nili => exact fun _ => .nili
  | fn f => exact fun _ => .fn f
  | agg cs vs hl h ih =>
    intro hp
    have hp' : FV.plains cs = true := hp
    exact .agg cs vs hl fun i a b ha hb => ih i a b ha hb (plains_mem hp' ha)
  | iface t a v h ih => exact fun hp => .iface t a v (ih hp)
  | sl0 a cap => intro hp; cases hp
  | sl xs g o s cap vals hs hc hF hR ho ih => intro hp; cases hp

def empty : ES := { next := 0, lo := 0, mem := .nil }

theorem empty_get (b : Nat) : empty.toSt.get b = none := by
  rw [es_get]; rfl

def pureArgs : List AV → Bool
  | [] => true
  | .c _ :: r => pureArgs r
  | _ :: _ => false

theorem pureArgs_mem : ∀ {l : List AV}, pureArgs l = true → ∀ {i : Nat} {a : AV}, l[i]? = some a → ∃ v, a = .c v
  | [], _, i, a, h => by simp at h
  | x :: r, hp, i, a, h => by
    cases x with
    | c v =>
      cases i with
      | zero => simp at h; exact ⟨v, h.symm⟩
      | succ i => exact pureArgs_mem (l := r) hp (by simpa using h)
    | _ => cases hp

theorem wc_closed {P : Program} {f : FuncId} {args : List AV} {v : FV} (hp : v.plain = true) (ha : pureArgs args = true) (h : WC P f args (fun y T => y = .ret (.c v) ∧ T = empty.toSt) empty.toSt) (S : St) :
    WC P f args (Is (.c v) S) S := by
  intro G vals w hr hI
  let G0 : Gh := { F := G.F, ρ := fun _ => none, τ := fun _ => none }
  have hI0 : Inv G0 empty.toSt w := by
    refine ⟨es_wf _, hI.cells, fun b ob hb => ?_, fun b b' ob ob' B B' hb => ?_, fun t ht => (by cases ht), fun t t' g x x' ht => (by cases ht), List.nodup_nil, fun b _ => ⟨rfl, rfl⟩, fun b B hB => (by cases hB)⟩
    · rw [empty_get] at hb; cases hb
    · rw [empty_get] at hb; cases hb
  have hr0 : RelL G0 args vals := ⟨hr.len, fun i a b hA hB => by
    obtain ⟨u, rfl⟩ := pureArgs_mem ha hA
    have hu : RelF G.F u b := relA_c (hr.rel i _ b hA hB)
    exact .c hu⟩
  refine (h G0 vals w hr0 hI0).mono ?_
  rintro e w' ⟨x, S', G', ⟨rfl, rfl⟩, k1, k2, k3⟩
  have hno : ∀ g, ¬ Own G0 empty.toSt g := by
    rintro g (⟨b, ob, B, h1, _⟩ | ⟨t, ht, _⟩)
    · rw [empty_get] at h1; cases h1
    · cases ht
  have hsame : ∀ g, g < w.heap.size → w'.heap[g]? = w.heap[g]? := fun g hg => k3.same g hg (hno g)
  refine ⟨.ret (.c v), S, G, ⟨rfl, rfl⟩, ?_, ?_, ?_⟩
  · cases e with
    | returned y => exact .c (relF_plain (relA_c k1) hp)
    | panicked ch => exact k1.elim
    | outgrown => exact k1.elim
  · refine ⟨hI.wf, fun g o u hu => k2.cells g o u (k3.le.F g o u hu), ?_, hI.apart, ?_, hI.tags, hI.nodup, hI.fresh, fun b B hB => Nat.lt_of_lt_of_le (hI.born b B hB) k3.size⟩
    · intro b ob hb hl
      obtain ⟨B, hB, hO⟩ := hI.obs b ob hb hl
      exact ⟨B, hB, hO.keep (.refl G) (fun _ _ h => h) (hsame _ (hI.born b B hB))⟩
    · intro t ht
      obtain ⟨g, st, en, s, h1, ⟨C, T, lo, hi, h2, h3⟩, h4⟩ := hI.spare t ht
      exact ⟨g, st, en, s, h1, ⟨C, T, lo, hi, by rw [hsame g ((Array.getElem?_eq_some_iff.1 h2).1)]; exact h2, h3⟩, h4⟩
  · exact ⟨.refl G, Nat.le_refl _, k3.size, fun g hg _ => hsame g hg, fun g ho => .inl ho, k3.os, k3.tape, k3.output⟩

theorem wc_run {P : Program} (hm : P.follows .mixedOrders = true) {pl : Nat → Pl} {ext : FuncId → List AV → ES → Ext1} (hx : ExtOk P ext) {fuel d : Nat} {f : FuncId} {args : List AV} {v : FV} (hp : v.plain = true) (ha : pureArgs args = true)
    (h : xCall P pl ext fuel d f args empty = some (.ret (.c v), empty)) (S : St) : WC P f args (Is (.c v) S) S :=
  wc_closed hp ha (xCall_spec hm hx d f args empty _ _ h).1 S

end Go.Abs
