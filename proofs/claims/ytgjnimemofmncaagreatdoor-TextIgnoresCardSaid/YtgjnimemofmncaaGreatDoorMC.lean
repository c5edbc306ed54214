/-
  Rows frozen or forgotten within a code, what is handed in opened as typed data; the text of a song without a program: what is written is read back, comments and empty lines change nothing, each beginning is too short; the facts of the program types. No condition beyond those each theorem states.
-/
import Derived.Test.YtgjnimemofmncaaGreatDoorMB
import Derived.Laws.LoneSync
import Derived.ProofKit
import Derived.Carry
import Derived.ChangeSame
import Derived.JoinedOf
import Derived.JoinedAt
import Derived.Deep.Slices
import Derived.SizedLaws
import Derived.Lib.Split
import Derived.Lib.SplitLaws
import Derived.Lib.CountLaws
import Derived.Lib.IndexLaws
import Derived.Lib.Join
import Derived.Lib.ItoaNum
import Derived.Lib.Strings
import Derived.Lib.ItoaLen
import Derived.Test.YtgjnimemofmncaaGreatDoorRows
import Derived.KernelRfl
set_option linter.unusedVariables false
set_option linter.unusedSimpArgs false
namespace Go.Abs
def Refines (S S' : St) : Prop := ∀ G w, Inv G S w → ∃ G', Inv G' S' w ∧ Ext G S w G' S' w
theorem Refines.refl (S : St) : Refines S S := fun G w h => ⟨G, h, .refl G S w⟩
theorem Refines.trans {S S1 S2 : St} (h : Refines S S1) (k : Refines S1 S2) : Refines S S2 := fun G w hI => by
  obtain ⟨G1, h1, h2⟩ := h G w hI
  obtain ⟨G2, k1, k2⟩ := k G1 w h1
  exact ⟨G2, k1, h2.trans k2⟩
theorem CPost.trans {G G1 : Gh} {S S1 : St} {w w1 : World} {R : CX → St → Prop} {e : Ending} {w' : World} (h : Ext G S w G1 S1 w1) (k : CPost G1 S1 w1 R e w') : CPost G S w R e w' := by
  obtain ⟨x, S', G', k1, k2, k3, k4⟩ := k
  exact ⟨x, S', G', k1, k2, k3, h.trans k4⟩
theorem w_refine {P : Program} {N : Nat} {c : Code} {Q : AQ} {env : Env} {S S' : St} (hr : Refines S S') (h : W P N c Q env S') : W P N c Q env S := by
  intro G a w hE hI
  obtain ⟨G', k1, k2⟩ := hr G w hI
  exact wp_mono (h G' a w (hE.mono k2.le) k1) fun e a w k => k.trans k2
theorem wc_frz {P : Program} {f : FuncId} {args args' : List AV} {R : CX → St → Prop} {S : St} {b off len s k : Nat} {full : Bool} {fv : FV} (hf : freezeRow P b off len s S = some fv)
    (hk : args[k]? = some (.sl b off len s full)) (ha : args' = args.set k (.c fv)) (h : WC P f args' R (S.put b .dead)) : WC P f args R S := by
  subst ha
  intro G vals w hv hI
  have hlt : k < vals.length := by rw [← hv.len]; exact (List.getElem?_eq_some_iff.1 hk).1
  have hx := hv.rel k _ vals[k] hk (by simp [hlt])
  obtain ⟨G', k1, k2, k3⟩ := freezeRow_sound hI hf hx
  refine (h G' vals w ⟨by simp [hv.len], fun i a b ha hb => ?_⟩ k1).mono fun e w' k => k.trans k2
  rw [List.getElem?_set] at ha
  split at ha
  · rename_i e
    subst e
    split at ha
    · cases ha
      have : b = vals[k] := by
        rw [List.getElem?_eq_getElem hlt] at hb
        exact (Option.some.inj hb).symm
      subst this
      exact .c k3
    · cases ha
  · exact (hv.rel i a b ha hb).mono k2.le
theorem inv_recell {G : Gh} {S : St} {w : World} (h : Inv G S w) {b ro : Nat} {T : TypeId} {cs cs' : List AV} (hb : S.get b = some (.blk cs ro T)) (hl : cs'.length = cs.length)
    (hc : ∀ B C lo hi, G.ρ b = some B → w.heap[B.g]? = some (.cells C T (lo, hi)) → (∀ (i : Nat) (a : AV), cs[i]? = some a → ∃ v, C[B.o + i]? = some v ∧ RelA G a v ∧ oneCell v = true) →
      ∀ (i : Nat) (a : AV), cs'[i]? = some a → ∃ v, C[B.o + i]? = some v ∧ RelA G a v ∧ oneCell v = true) :
    Inv G (S.put b (.blk cs' ro T)) w ∧ Ext G S w G (S.put b (.blk cs' ro T)) w := by
  obtain ⟨B, hB, h1, h2, C, lo, hi, h3, h4, h5, h6, h7⟩ := h.obs b _ hb rfl
  have hg := (h.born b B hB).1
  have e : wh w (w.heap.setIfInBounds B.g w.heap[B.g]) = w := by
    have : w.heap.setIfInBounds B.g w.heap[B.g] = w.heap := by
      apply Array.ext
      · simp
      · intro j h1 h2
        by_cases hj : B.g = j
        · subst hj; simp
        · rw [Array.getElem_setIfInBounds (by simpa using h1)]; simp [hj]
    rw [this]; rfl
  have := inv_upd h hb rfl (ob := .blk cs' ro T) rfl hB w.heap[B.g] (by
    rw [e]
    exact ⟨by rw [hl]; exact h1, by rw [hl]; exact h2, C, lo, hi, h3, h4, hc B C lo hi hB h3 h5, h6, h7⟩) (fun j v hj => by rw [e]; exact h.cells _ _ _ hj)
  rwa [e] at this
theorem refines_cell {P : Program} {S : St} {rb ro i b off len s : Nat} {full : Bool} {T : TypeId} {cs cs' : List AV} {fv : FV} (hb : S.get rb = some (.blk cs ro T)) (hi : cs[i]? = some (.sl b off len s full))
    (hf : freezeRow P b off len s S = some fv) (hne : b ≠ rb) (hcs : cs' = cs.set i (.c fv)) : Refines S ((S.put b .dead).put rb (.blk cs' ro T)) := by
  subst hcs
  intro G w h
  obtain ⟨B, hB, h1, h2, C, lo, hi', h3, h4, h5, h6, h7⟩ := h.obs rb _ hb rfl
  obtain ⟨v, v1, v2, v3⟩ := h5 i _ hi
  obtain ⟨G1, k1, k2, k3⟩ := freezeRow_sound h hf v2
  have hget : (S.put b .dead).get rb = some (.blk cs ro T) := by rw [St.get_put, if_neg hne]; exact hb
  obtain ⟨m1, m2⟩ := inv_recell k1 (cs' := cs.set i (.c fv)) hget (by simp) (by
    intro B' C' lo2 hi2 hB' hC' hcell j a ha
    have hBB : B' = B := by
      have := k2.le.ρ _ _ hB
      rw [this] at hB'
      exact (Option.some.inj hB').symm
    subst hBB
    rw [h3] at hC'
    cases hC'
    rw [List.getElem?_set] at ha
    split at ha
    · rename_i e
      subst e
      split at ha
      · cases ha
        exact ⟨v, v1, .c k3, v3⟩
      · cases ha
    · exact hcell j a ha)
  exact ⟨G1, m1, k2.trans m2⟩
def CX.val : CX → AV
  | .ret v => v
  | .panic v => v
theorem wc_pop {P : Program} {f : FuncId} {args : List AV} {R R' : CX → St → Prop} {S : St} (h : WC P f args R S)
    (hp : ∀ x T, R x T → R' x T ∨ (x.val.under S.next 4 = true ∧ PopOk S.next T ∧ R' x (T.pop S.next))) : WC P f args R' S := by
  intro G vals w hr hI
  refine (h G vals w hr hI).mono ?_
  rintro e w' ⟨x, T, G', k1, k2, k3, k4⟩
  rcases hp x T k1 with k5 | ⟨k5, k6, k7⟩
  · exact ⟨x, T, G', k5, k2, k3, k4⟩
  · obtain ⟨m1, m2⟩ := inv_pop hI k3 k4 k6
    refine ⟨x, _, _, k7, ?_, m1, m2⟩
    cases x with
    | ret v =>
      cases e with
      | returned y => exact RelA.pop (low_of_under k5) k2
      | panicked ch => exact k2.elim
      | outgrown => exact k2.elim
    | panic v =>
      cases e with
      | returned y => exact k2.elim
      | panicked ch =>
        obtain ⟨y, e1, e2⟩ := k2
        exact ⟨y, e1, e2.pop (low_of_under k5)⟩
      | outgrown => exact k2.elim
theorem wc_shut_post {P : Program} {f : FuncId} {args : List AV} {R R' : CX → St → Prop} {S : St} (h : WC P f args R S) (hp : ∀ x T, R x T → Shut T → R' x T) : WC P f args R' S := by
  intro G vals w hr hI
  refine (h G vals w hr hI).mono ?_
  rintro e w' ⟨x, T, G', k1, k2, k3, k4⟩
  exact ⟨x, T, G', hp x T k1 (inv_shut k3), k2, k3, k4⟩
theorem wloop_measW {P : Program} {N : Nat} {c : Code} {Q : AQ} (I : Nat → Env → St → Prop) (h : ∀ n e S, I n e S → W P N c (thenX (fun e' S' => ∃ m, m < n ∧ I m e' S') Q) e S) :
    ∀ n e S, I n e S → WLoop P N c Q e S := by
  intro n
  induction n using Nat.strongRecOn with
  | _ n ih =>
    intro e S hI
    refine wloop_unfold ((h n e S hI).mono fun x e' S' hx => ?_)
    cases x with
    | normal =>
      obtain ⟨m, hm, hI'⟩ := hx
      exact ih m hm e' S' hI'
    | _ => exact hx
theorem fwd_of {S T : St} (hS : Shut S) (h1 : S.next ≤ T.next) (h2 : ∀ b, b < S.next → T.get b = S.get b) (h3 : T.spare = S.spare) (h4 : T.known = S.known) : Fwd S T := by
  refine ⟨h1, ⟨fun b o hb ho => ?_, fun t ht => ?_⟩, ?_⟩
  · rw [h2 b hb] at ho
    exact hS.2.1 b o hb ho
  · rw [h3] at ht
    exact hS.2.2 t ht
  · refine St.ext rfl (fun b => ?_) h3 h4
    show (bif Nat.blt b S.next then T.get b else none) = S.get b
    cases hb : Nat.blt b S.next with
    | true => exact h2 b (blt_lt hb)
    | false =>
      cases hg : S.get b with
      | none => rfl
      | some o =>
        have h5 := hS.1 b o hg
        have : Nat.blt b S.next = true := by simpa [Nat.blt_eq] using h5
        rw [this] at hb; cases hb
theorem callK_cut {P : Program} {N : Nat} {ops rest : List Oper} {next : Env → St → Prop} {Q : AQ} {env : Env} {d : Option Tmp} {x : CX} {S : St} (M : Env → St → Prop)
    (h : callK (WOps P N ops (thenX M Q) rest) (thenX M Q) env d x S) (hn : ∀ e S, M e S → next e S) : callK (WOps P N ops (thenX next Q) rest) (thenX next Q) env d x S := by
  have hq : ∀ x e S, thenX M Q x e S → thenX next Q x e S := thenX_cut hn
  cases x with
  | ret v => exact wops_mono hq h
  | panic v => exact hq (.panic v) env S h
theorem nils_weak {F : Nat → Nat → Option Value} {x : Value} (h : RelF F .nils x) : RelF F (.sl []) x := by cases h; exact .slN
theorem Fwd.get {S T : St} (h : Fwd S T) {b : Nat} (hb : b < S.next) : T.get b = S.get b := by
  rw [← h.pop]
  show _ = (bif Nat.blt b S.next then T.get b else none)
  have : Nat.blt b S.next = true := by simpa [Nat.blt_eq] using hb
  rw [this]; rfl
theorem Fwd.spare {S T : St} (h : Fwd S T) : T.spare = S.spare := by rw [← h.pop]; rfl
theorem Fwd.known {S T : St} (h : Fwd S T) : T.known = S.known := by rw [← h.pop]; rfl
theorem Fwd.trans {S T U : St} (hS : Shut S) (h : Fwd S T) (k : Fwd T U) : Fwd S U :=
  fwd_of hS (Nat.le_trans h.next k.next) (fun b hb => by rw [k.get (Nat.lt_of_lt_of_le hb h.next), h.get hb]) (k.spare.trans h.spare) (k.known.trans h.known)
end Go.Abs

namespace Go.Abs
structure Ext0 (P : Program) (f : FuncId) (e : Array Value → Sem Value) : Prop where
  ex : ∃ fn, P.funcs[f]? = some fn ∧ (fn.name == "runtime.NumGoroutine") = false ∧ fn.body.isNone = true ∧ Extern.findNext fn = none ∧ Extern.find fn = some e
theorem wc_value {P : Program} {f : FuncId} {args : List AV} {R : CX → St → Prop} {S : St}
    (h : ∀ G (vals : List Value) w, RelL G args vals → Inv G S w → ∃ x w', Sem.run P (callFunc f vals.toArray) w = .ok (.value x) w' ∧ CPost G S w R (.returned x) w') : WC P f args R S := by
  intro G vals w hr hI
  obtain ⟨x, w', h1, h2⟩ := h G vals w hr hI
  unfold Upon
  rw [h1]
  exact h2
theorem unit_rel (G : Gh) : RelA G (.tup []) (.tuple #[]) := undef_rel G
theorem relL_three {G : Gh} {a b c : AV} {vs : List Value} (h : RelL G [a, b, c] vs) : ∃ x y z, vs = [x, y, z] ∧ RelA G a x ∧ RelA G b y ∧ RelA G c z := by
  match vs, h with
  | [x, y, z], h => exact ⟨x, y, z, rfl, h.rel 0 _ _ rfl rfl, h.rel 1 _ _ rfl rfl, h.rel 2 _ _ rfl rfl⟩
  | [], h => have := h.len; simp at this
  | [_], h => have := h.len; simp at this
  | [_, _], h => have := h.len; simp at this
  | _ :: _ :: _ :: _ :: _, h => have := h.len; simp at this
theorem wc_same {P : Program} {f : FuncId} (hx : Ext0 P f Extern.AbiNoEscape.same) (v : AV) (S : St) : WC P f [v] (Is v S) S := by
  obtain ⟨fn, h1, h2, h3, h4, h5⟩ := hx.ex
  refine wc_value fun G vals w hr hI => ?_
  obtain ⟨x, rfl, hxr⟩ := relL_one hr
  refine ⟨x, w, ?_, .ret v, S, G, ⟨rfl, rfl⟩, hxr, hI, .refl G S w⟩
  rw [run_callFunc_extern h1 h2 h3 h4 h5]
  rfl
theorem wc_mark0 {P : Program} {f : FuncId} {m : Mark} (hx : Ext0 P f (fun _ => do mark m; pure Extern.Race.none_)) (S : St) : WC P f [] (Is (.tup []) S) S := by
  obtain ⟨fn, h1, h2, h3, h4, h5⟩ := hx.ex
  refine wc_value fun G vals w hr hI => ?_
  have : vals = [] := List.eq_nil_of_length_eq_zero (by simpa using hr.len.symm)
  subst this
  exact ⟨.tuple #[], w, run_call_mark0 h1 h2 h3 h4 m h5 w, .ret (.tup []), S, G, ⟨rfl, rfl⟩, unit_rel G, hI, .refl G S w⟩
theorem wc_marked {P : Program} {f : FuncId} {m : Addr → Mark} (hx : Ext0 P f (Extern.Race.marked m)) (b off : Nat) (S : St) : WC P f [.ref b off] (Is (.tup []) S) S := by
  obtain ⟨fn, h1, h2, h3, h4, h5⟩ := hx.ex
  refine wc_value fun G vals w hr hI => ?_
  obtain ⟨x, rfl, hxr⟩ := relL_one hr
  cases hxr with
  | ref hB => exact ⟨.tuple #[], w, run_call_marked h1 h2 h3 h4 m h5 _ w, .ret (.tup []), S, G, ⟨rfl, rfl⟩, unit_rel G, hI, .refl G S w⟩
theorem int_cell {P : Program} {G : Gh} {S : St} {w : World} (h : Inv G S w) {b off ro : Nat} {T : TypeId} {cs : List AV} {k : IntKind} {x : Int} {B : Base} (hB : G.ρ b = some B) (hb : S.get b = some (.blk cs ro T))
    (hc : cs[off]? = some (.c (.int k x))) : w.cell? ⟨B.g, B.o + off, none⟩ = some (.int k x) := by
  obtain ⟨B', hB', h1, h2, C, lo, hi, h3, h4, h5, h6, h7⟩ := h.obs b _ hb rfl
  rw [hB] at hB'
  cases hB'
  obtain ⟨v, v1, v2, v3⟩ := h5 off _ hc
  cases relA_c v2
  rw [cell_at h3]
  exact v1
theorem int_set {P : Program} {G : Gh} {S : St} {w : World} (h : Inv G S w) {b off ro : Nat} {T : TypeId} {cs : List AV} {k : IntKind} {x : Int} {B : Base} (hB : G.ρ b = some B) (hb : S.get b = some (.blk cs ro T))
    (hc : cs[off]? = some (.c (.int k x))) (hro : ro ≤ off) (y : Int) : w.frozen? ⟨B.g, B.o + off, none⟩ = false ∧
      Inv G (S.put b (.blk (setRange cs off [.c (.int k y)]) ro T)) (w.setCell ⟨B.g, B.o + off, none⟩ (.int k y)) ∧ Ext G S w G (S.put b (.blk (setRange cs off [.c (.int k y)]) ro T)) (w.setCell ⟨B.g, B.o + off, none⟩ (.int k y)) := by
  have hcell := int_cell (P := P) h hB hb hc
  have hlt : off < cs.length := (List.getElem?_eq_some_iff.1 hc).1
  have hfr : w.frozen? ⟨B.g, B.o + off, none⟩ = false := by
    obtain ⟨B', hB', h1, h2, C, lo, hi, h3, h4, h5, h6, h7⟩ := h.obs b _ hb rfl
    rw [hB] at hB'
    cases hB'
    rw [frozen_at h3]
    have := h6 (B.o + off) (by omega) (by omega)
    simp only [Bool.and_eq_false_iff, decide_eq_false_iff_not]
    omega
  obtain ⟨w', k1, k2, k3⟩ := inv_write (P := P) h (aq := [.c (.int k y)]) (vs := [.int k y]) hb hB ⟨rfl, fun i a b ha hb => by
    match i, ha, hb with
    | 0, ha, hb => cases ha; cases hb; exact .c (.int _ _)⟩ rfl hro (by simp; omega)
  have hw : w' = w.setCell ⟨B.g, B.o + off, none⟩ (.int k y) := by
    have e : (⟨B.g, B.o + off, none⟩ : Addr).add 0 = ⟨B.g, B.o + off, none⟩ := by rw [Addr_add]; rfl
    have k3 : Sem.run P (store ⟨B.g, B.o + off, none⟩ (.int k y)) w = .ok () (w.setCell ⟨B.g, B.o + off, none⟩ (.int k y)) := by simp [store, Sem.run, hcell, hfr]
    simp only [storeCells, Sem.run_bind, e, k3, Result.andThen] at k1
    cases k1
    rfl
  subst hw
  exact ⟨hfr, k2, k3⟩
theorem wc_loadInt {P : Program} {f : FuncId} {k : IntKind} (hx : Ext0 P f (Extern.Atomic.loadT (.int k))) {S : St} {b off ro : Nat} {T : TypeId} {cs : List AV} {x : Int} (hb : S.get b = some (.blk cs ro T)) (hc : cs[off]? = some (.c (.int k x))) :
    WC P f [.ref b off] (Is (.c (.int k x)) S) S := by
  obtain ⟨fn, h1, h2, h3, h4, h5⟩ := hx.ex
  refine wc_value fun G vals w hr hI => ?_
  obtain ⟨v, rfl, hxr⟩ := relL_one hr
  cases hxr with
  | ref hB => exact ⟨.int k x, w, run_call_load h1 h2 h3 h4 k h5 (int_cell (P := P) hI hB hb hc), .ret (.c (.int k x)), S, G, ⟨rfl, rfl⟩, .c (.int _ _), hI, .refl G S w⟩
theorem wc_storeInt {P : Program} {f : FuncId} (hx : Ext0 P f Extern.Atomic.storeT) {S : St} {b off ro : Nat} {T : TypeId} {cs : List AV} {k : IntKind} {x y : Int} (hb : S.get b = some (.blk cs ro T)) (hc : cs[off]? = some (.c (.int k x)))
    (hro : ro ≤ off) : WC P f [.ref b off, .c (.int k y)] (Is (.tup []) (S.put b (.blk (setRange cs off [.c (.int k y)]) ro T))) S := by
  obtain ⟨fn, h1, h2, h3, h4, h5⟩ := hx.ex
  refine wc_value fun G vals w hr hI => ?_
  obtain ⟨v, u, rfl, hxr, hy⟩ := relL_two hr
  cases relA_c hy
  cases hxr with
  | ref hB =>
    obtain ⟨k1, k2, k3⟩ := int_set (P := P) hI hB hb hc hro y
    exact ⟨.tuple #[], _, run_call_store h1 h2 h3 h4 h5 (int_cell (P := P) hI hB hb hc) k1, .ret (.tup []), _, G, ⟨rfl, rfl⟩, unit_rel G, k2, k3⟩
theorem wc_casInt {P : Program} {f : FuncId} {k : IntKind} (hx : Ext0 P f (Extern.Atomic.casT (.int k))) {S : St} {b off ro : Nat} {T : TypeId} {cs : List AV} {x y : Int} (hb : S.get b = some (.blk cs ro T)) (hc : cs[off]? = some (.c (.int k x)))
    (hro : ro ≤ off) : WC P f [.ref b off, .c (.int k x), .c (.int k y)] (Is (.c (.bool true)) (S.put b (.blk (setRange cs off [.c (.int k y)]) ro T))) S := by
  obtain ⟨fn, h1, h2, h3, h4, h5⟩ := hx.ex
  refine wc_value fun G vals w hr hI => ?_
  obtain ⟨v, u, z, rfl, hxr, hx', hy⟩ := relL_three hr
  cases relA_c hx'
  cases relA_c hy
  cases hxr with
  | ref hB =>
    obtain ⟨k1, k2, k3⟩ := int_set (P := P) hI hB hb hc hro y
    exact ⟨.bool true, _, run_call_cas_hit h1 h2 h3 h4 k h5 (int_cell (P := P) hI hB hb hc) k1, .ret (.c (.bool true)), _, G, ⟨rfl, rfl⟩, .c (.bool _), k2, k3⟩
theorem wc_addInt {P : Program} {f : FuncId} {k : IntKind} (hx : Ext0 P f (Extern.Atomic.update (Op.intArith .add) k true)) {S : St} {b off ro : Nat} {T : TypeId} {cs : List AV} {x y : Int} (hb : S.get b = some (.blk cs ro T)) (hc : cs[off]? = some (.c (.int k x)))
    (hro : ro ≤ off) : WC P f [.ref b off, .c (.int k y)] (Is (.c (.int k (k.wrap (x + y)))) (S.put b (.blk (setRange cs off [.c (.int k (k.wrap (x + y)))]) ro T))) S := by
  obtain ⟨fn, h1, h2, h3, h4, h5⟩ := hx.ex
  refine wc_value fun G vals w hr hI => ?_
  obtain ⟨v, u, rfl, hxr, hy⟩ := relL_two hr
  cases relA_c hy
  cases hxr with
  | ref hB =>
    obtain ⟨k1, k2, k3⟩ := int_set (P := P) hI hB hb hc hro (k.wrap (x + y))
    exact ⟨.int k (k.wrap (x + y)), _, run_call_add h1 h2 h3 h4 k h5 (int_cell (P := P) hI hB hb hc) k1 rfl, .ret (.c (.int k (k.wrap (x + y)))), _, G, ⟨rfl, rfl⟩, .c (.int _ _), k2, k3⟩
end Go.Abs

namespace Go.Abs
theorem CPost.weak {G : Gh} {S : St} {w : World} {R R' : CX → St → Prop} {e : Ending} {w' : World} (h : CPost G S w R e w')
    (hw : ∀ v T, R (.ret v) T → ∃ v', R' (.ret v') T ∧ ∀ G x, RelA G v x → RelA G v' x) (hp : ∀ v T, R (.panic v) T → R' (.panic v) T) : CPost G S w R' e w' := by
  obtain ⟨x, T, G', k1, k2, k3, k4⟩ := h
  cases x with
  | panic v => exact ⟨.panic v, T, G', hp _ _ k1, k2, k3, k4⟩
  | ret v =>
    obtain ⟨v', h1, h2⟩ := hw _ _ k1
    refine ⟨.ret v', T, G', h1, ?_, k3, k4⟩
    cases e with
    | returned y => exact h2 _ _ k2
    | _ => exact k2
theorem wc_weak {P : Program} {f : FuncId} {args : List AV} {R R' : CX → St → Prop} {S : St} (h : WC P f args R S)
    (hw : ∀ v T, R (.ret v) T → ∃ v', R' (.ret v') T ∧ ∀ G x, RelA G v x → RelA G v' x) (hp : ∀ v T, R (.panic v) T → R' (.panic v) T) : WC P f args R' S :=
  fun G vals w h1 h2 => (h G vals w h1 h2).mono fun e w' k => k.weak hw hp
theorem rel_nils {G : Gh} {x : Value} (h : RelA G (.c .nils) x) : RelA G (.c (.sl [])) x := by
  cases h with
  | c h => exact .c (nils_weak h)
theorem wc_fwd {P : Program} {f : FuncId} {args : List AV} {R' : CX → St → Prop} {S : St} (h : WC P f args (fun x T => R' x T ∨ (x.val.under S.next 4 = true ∧ Fwd S T ∧ R' x S)) S) : WC P f args R' S :=
  wc_pop h fun x T hx => hx.imp id fun ⟨h1, h2, h3⟩ => ⟨h1, h2.ok, by rw [h2.pop]; exact h3⟩
structure FR (S : St) (L : List (Nat × Ob)) (T : St) : Prop where
  wf : T.Wf
  next : S.next ≤ T.next
  old : ∀ b, b < S.next → T.get b = S.get b
  spare : T.spare = S.spare
  known : T.known = S.known
  nodup : (L.map (·.1)).Nodup
  at_ : ∀ p ∈ L, S.next ≤ p.1 ∧ T.get p.1 = some p.2
variable {S T : St} {L L' : List (Nat × Ob)} {b : Nat} {o o' : Ob}
theorem FR.start (hS : S.Wf) : FR S [] S := ⟨hS, Nat.le_refl _, fun _ _ => rfl, rfl, rfl, List.nodup_nil, by simp⟩
theorem FR.fwd (h : FR S L T) (hS : Shut S) : Fwd S T := fwd_of hS h.next h.old h.spare h.known
theorem FR.get (h : FR S L T) (hb : (b, o) ∈ L) : T.get b = some o := (h.at_ _ hb).2
theorem FR.get1 (h : FR S ((b, o) :: L) T) : T.get b = some o := h.get (List.mem_cons_self ..)
theorem FR.lt (h : FR S L T) (hb : (b, o) ∈ L) : b < T.next := h.wf _ _ (h.get hb)
theorem FR.ge (h : FR S L T) (hb : (b, o) ∈ L) : S.next ≤ b := (h.at_ _ hb).1
theorem FR.new_ne (h : FR S L T) (hb : (b, o) ∈ L) : (T.next = b) = False := eq_false (by have := h.lt hb; omega)
theorem FR.apart (h : FR S ((b, o) :: L) T) {p : Nat × Ob} (hp : p ∈ L) : b ≠ p.1 := fun e => by
  have := h.nodup
  rw [List.map_cons, List.nodup_cons] at this
  exact this.1 (List.mem_map.2 ⟨p, hp, e.symm⟩)
theorem FR.tmp (h : FR S L T) (o : Ob) : FR S L (T.new o) :=
  ⟨wf_new h.wf, by rw [next_new]; have := h.next; omega, fun b hb => by rw [St.get_new, if_neg (by have := h.next; omega)]; exact h.old b hb, h.spare, h.known, h.nodup,
    fun p hp => ⟨(h.at_ p hp).1, by have := h.wf _ _ (h.at_ p hp).2; rw [St.get_new, if_neg (by omega)]; exact (h.at_ p hp).2⟩⟩
theorem FR.new (h : FR S L T) (o : Ob) : FR S ((T.next, o) :: L) (T.new o) := by
  have h' := h.tmp o
  refine ⟨h'.wf, h'.next, h'.old, h'.spare, h'.known, ?_, fun p hp => ?_⟩
  · rw [List.map_cons, List.nodup_cons]
    refine ⟨fun hm => ?_, h.nodup⟩
    obtain ⟨p, hp, e⟩ := List.mem_map.1 hm
    have := h.wf _ _ (h.at_ p hp).2
    omega
  · rcases List.mem_cons.1 hp with rfl | hp
    · exact ⟨h.next, by rw [St.get_new]; exact if_pos rfl⟩
    · exact h'.at_ p hp
theorem FR.put (h : FR S ((b, o) :: L) T) (o' : Ob) : FR S ((b, o') :: L) (T.put b o') := by
  have hb := h.ge (List.mem_cons_self ..)
  refine ⟨wf_put h.wf (h.lt (List.mem_cons_self ..)), h.next, fun a ha => by rw [St.get_put, if_neg (by omega)]; exact h.old a ha, h.spare, h.known, ?_, fun p hp => ?_⟩
  · have := h.nodup
    rw [List.map_cons] at this ⊢
    exact this
  · rcases List.mem_cons.1 hp with rfl | hp
    · exact ⟨hb, by rw [St.get_put]; exact if_pos rfl⟩
    · have h1 := h.at_ p (List.mem_cons_of_mem _ hp)
      exact ⟨h1.1, by rw [St.get_put, if_neg (h.apart hp)]; exact h1.2⟩
theorem FR.sub (h : FR S L T) (hs : L'.Sublist L) : FR S L' T :=
  ⟨h.wf, h.next, h.old, h.spare, h.known, h.nodup.sublist (hs.map _), fun p hp => h.at_ p (hs.subset hp)⟩
theorem FR.drop (h : FR S ((b, o) :: L) T) : FR S L T := h.sub (List.sublist_cons_self ..)
theorem FR.perm (h : FR S L T) (hp : L.Perm L') : FR S L' T :=
  ⟨h.wf, h.next, h.old, h.spare, h.known, (hp.map _).nodup_iff.1 h.nodup, fun p hm => h.at_ p (hp.mem_iff.2 hm)⟩
theorem FR.trans {S1 : St} (h : FR S L S1) (k : FR S1 L' T) : FR S L T :=
  ⟨k.wf, Nat.le_trans h.next k.next, fun b hb => by rw [k.old b (Nat.lt_of_lt_of_le hb h.next), h.old b hb], k.spare.trans h.spare, k.known.trans h.known, h.nodup,
    fun p hp => ⟨(h.at_ p hp).1, by rw [k.old _ (h.wf _ _ (h.at_ p hp).2)]; exact (h.at_ p hp).2⟩⟩
theorem FR.put_mid {L1 L2 : List (Nat × Ob)} (h : FR S (L1 ++ (b, o) :: L2) T) (o' : Ob) : FR S (L1 ++ (b, o') :: L2) (T.put b o') :=
  ((h.perm List.perm_middle).put o').perm List.perm_middle.symm
theorem FR.put_old (h : FR S L T) {a : Nat} (ha : a < S.next) (o : Ob) : FR (S.put a o) L (T.put a o) := by
  refine ⟨wf_put h.wf (Nat.lt_of_lt_of_le ha h.next), h.next, fun b hb => ?_, h.spare, h.known, h.nodup, fun p hp => ?_⟩
  · rw [St.get_put, St.get_put]
    split
    · rfl
    · exact h.old b hb
  · have h1 := h.at_ p hp
    exact ⟨h1.1, by rw [St.get_put, if_neg (by have := h1.1; omega)]; exact h1.2⟩
theorem refines_nil {rb ro i : Nat} {U : TypeId} {cs cs' : List AV} (hb : S.get rb = some (.blk cs ro U)) (hi : cs[i]? = some (.c .nils)) (hcs : cs' = cs.set i (.c (.sl []))) : Refines S (S.put rb (.blk cs' ro U)) := by
  subst hcs
  intro G w h
  obtain ⟨m1, m2⟩ := inv_recell h (cs' := cs.set i (.c (.sl []))) hb (by simp) (by
    intro B C lo hi2 hB hC hcell j a ha
    rw [List.getElem?_set] at ha
    split at ha
    · rename_i e
      subst e
      split at ha
      · cases ha
        obtain ⟨v, v1, v2, v3⟩ := hcell i _ hi
        exact ⟨v, v1, rel_nils v2, v3⟩
      · cases ha
    · exact hcell j a ha)
  exact ⟨G, m1, m2⟩
section
variable {α : Type}
def rowC (g : α → List FV) (l : List α) : List AV := (l.flatMap g).map .c
theorem rowC_append (g : α → List FV) (l r : List α) : rowC g (l ++ r) = rowC g l ++ rowC g r := by simp [rowC]
theorem rowC_one (g : α → List FV) (x : α) : rowC g [x] = (g x).map .c := by simp [rowC]
theorem rowC_length (g : α → List FV) {s : Nat} (hs : ∀ x, (g x).length = s) (l : List α) : (rowC g l).length = l.length * s := by
  induction l with
  | nil => simp [rowC]
  | cons x r ih =>
    rw [show x :: r = [x] ++ r from rfl, rowC_append, List.length_append, ih, rowC_one, List.length_map, hs, List.length_append, List.length_singleton, Nat.add_mul, Nat.one_mul]
theorem allPure_cs (l : List FV) : allPure (l.map .c) = some l := by
  induction l with
  | nil => rfl
  | cons x r ih => simp [allPure, ih]
theorem unflat_rows (g : α → List FV) {s : Nat} (hs : ∀ x, (g x).length = s) : ∀ l : List α, unflat true s l.length (l.flatMap g) = l.map fun x => .agg (g x)
  | [] => rfl
  | x :: r => by
    have ih := unflat_rows g hs r
    have e1 : ((x :: r).flatMap g).take s = g x := by
      rw [List.flatMap_cons, ← hs x, List.take_left]
    have e2 : ((x :: r).flatMap g).drop s = r.flatMap g := by
      rw [List.flatMap_cons, ← hs x, List.drop_left]
    show (FV.agg (((x :: r).flatMap g).take s)) :: unflat true s r.length (((x :: r).flatMap g).drop s) = _
    rw [e1, e2, ih]
    rfl
theorem frz_rows {P : Program} {g : α → List FV} {s : Nat} (hs : ∀ x, (g x).length = s) {U : TypeId} (hT : isAggT P U = some true) (hz : szT P U = some s) {b ro : Nat} {l : List α} (h : T.get b = some (.blk (rowC g l) ro U)) :
    freezeRow P b 0 l.length s T = some (.sl (l.map fun x => .agg (g x))) := by
  have hl := rowC_length g hs l
  have hp : allPure (rowC g l) = some (l.flatMap g) := allPure_cs _
  unfold freezeRow
  rw [h]
  simp only [hT, hz, hp]
  rw [if_pos ⟨trivial, by rw [hl]; omega, by simp⟩, List.drop_zero, unflat_rows g hs]
inductive RowIn (S : St) (g : α → List FV) (U : TypeId) (s B : Nat) (X : AV → Ob) (L : List (Nat × Ob)) (l : List α) : AV → St → Prop
  | nil {T : St} (h : FR S ((B, X (.c .nils)) :: L) T) (hl : l = []) : RowIn S g U s B X L l (.c .nils) T
  | row {b : Nat} {T : St} (h : FR S ((b, .blk (rowC g l) 0 U) :: (B, X (.sl b 0 l.length s false)) :: L) T) (hl : 0 < l.length) : RowIn S g U s B X L l (.sl b 0 l.length s false) T
variable {g : α → List FV} {U : TypeId} {s B : Nat} {X : AV → Ob} {l : List α} {v : AV}
theorem RowIn.fr (h : RowIn S g U s B X L l v T) : FR S ((B, X v) :: L) T := by
  cases h with
  | nil h _ => exact h
  | row h _ => exact h.drop
theorem RowIn.first (h : FR S ((B, X (.c .nils)) :: L) T) (x : α) (o : Ob) :
    RowIn S g U s B X L [x] (.sl (T.next + 1) 0 1 s false) (((T.new o).new (.blk ((g x).map .c) 0 U)).put B (X (.sl (T.next + 1) 0 1 s false))) := by
  have h1 := (h.tmp o).new (.blk ((g x).map .c) 0 U)
  have h2 := FR.put_mid (L1 := [_]) h1 (X (.sl (T.next + 1) 0 1 s false))
  rw [← rowC_one] at h2 ⊢
  exact .row (l := [x]) h2 (by simp)
theorem RowIn.more {b : Nat} (h : FR S ((b, .blk (rowC g l) 0 U) :: (B, X (.sl b 0 l.length s false)) :: L) T) (x : α) (o : Ob) :
    RowIn S g U s B X L (l ++ [x]) (.sl (T.next + 1) 0 (l.length + 1) s false) ((((T.new o).put b .dead).new (.blk (rowC g l ++ (g x).map .c) 0 U)).put B (X (.sl (T.next + 1) 0 (l.length + 1) s false))) := by
  have h1 := (((h.tmp o).put .dead).drop).new (.blk (rowC g l ++ (g x).map .c) 0 U)
  have h2 := FR.put_mid (L1 := [_]) h1 (X (.sl (T.next + 1) 0 (l.length + 1) s false))
  have e1 : l.length + 1 = (l ++ [x]).length := by simp
  rw [← rowC_one, ← rowC_append] at h2 ⊢
  rw [e1] at h2 ⊢
  exact .row h2 (by simp)
theorem RowIn.firstV (h : FR S ((B, X (.c .nils)) :: L) T) (r : List α) (hr : 0 < r.length) :
    RowIn S g U s B X L r (.sl T.next 0 r.length s false) ((T.new (.blk (rowC g r) 0 U)).put B (X (.sl T.next 0 r.length s false))) := by
  have h1 := h.new (.blk (rowC g r) 0 U)
  have h2 := FR.put_mid (L1 := [_]) h1 (X (.sl T.next 0 r.length s false))
  exact .row h2 hr
theorem RowIn.moreV {b : Nat} (h : FR S ((b, .blk (rowC g l) 0 U) :: (B, X (.sl b 0 l.length s false)) :: L) T) (r : List α) (hl : 0 < l.length) :
    RowIn S g U s B X L (l ++ r) (.sl T.next 0 (l.length + r.length) s false) (((T.put b .dead).new (.blk (rowC g l ++ rowC g r) 0 U)).put B (X (.sl T.next 0 (l.length + r.length) s false))) := by
  have h1 := ((h.put .dead).drop).new (.blk (rowC g l ++ rowC g r) 0 U)
  have h2 := FR.put_mid (L1 := [_]) h1 (X (.sl T.next 0 (l.length + r.length) s false))
  have e1 : l.length + r.length = (l ++ r).length := by simp
  rw [← rowC_append] at h2 ⊢
  rw [e1] at h2 ⊢
  exact .row h2 (by rw [List.length_append]; omega)
theorem RowIn.closeUp {P : Program} {C : AV → List AV} {ro i : Nat} {U2 : TypeId} {e : α → FV} (hf : ∀ (T : St) (b : Nat), T.get b = some (.blk (rowC g l) 0 U) → freezeRow P b 0 l.length s T = some (.sl (l.map e)))
    (hX : ∀ v, X v = .blk (C v) ro U2) (hi : ∀ v, (C v)[i]? = some v) (hc : ∀ v v', C v' = (C v).set i v') (h : RowIn S g U s B X L l v T) :
    ∃ T', Refines T T' ∧ FR S ((B, X (.c (.sl (l.map e)))) :: L) T' := by
  cases h with
  | nil h hl =>
    subst hl
    refine ⟨_, refines_nil (by rw [h.get1, hX]) (hi _) rfl, ?_⟩
    rw [← hc (.c .nils) (.c (.sl [])), ← hX]
    exact h.put _
  | row h hl =>
    rename_i b
    have hb := h.get1
    have hB : T.get B = some (.blk (C (.sl b 0 l.length s false)) ro U2) := by rw [h.drop.get1, hX]
    refine ⟨_, refines_cell hB (hi _) (hf _ _ hb) (h.apart (List.mem_cons_self ..)) rfl, ?_⟩
    rw [← hc _ (.c (.sl (l.map e))), ← hX]
    exact ((h.put .dead).drop).put _
end
theorem resK_cut {P : Program} {N : Nat} {ops rest : List Oper} {next : Env → St → Prop} {Q : AQ} {env : Env} {S : St} {d : Option Tmp} {r : Option Res} (M : Env → St → Prop)
    (h : resK P (WOps P N ops (thenX M Q) rest) (thenX M Q) env S d r) (hn : ∀ e S, M e S → next e S) : resK P (WOps P N ops (thenX next Q) rest) (thenX next Q) env S d r := by
  have hq : ∀ x e S, thenX M Q x e S → thenX next Q x e S := thenX_cut hn
  cases r with
  | none => exact h.elim
  | some r =>
    cases r with
    | val v cm => exact wops_mono hq h
    | skip cm => exact wops_mono hq h
    | call f args =>
      refine WC.mono h fun x S' => ?_
      cases x with
      | ret v => exact wops_mono hq
      | panic v => exact fun h => hq (.panic v) env S' h
    | pan v => exact hq (.panic v) env S h
    | any l => exact fun p hp => wops_mono hq (h p hp)
theorem wc_fwd2 {P : Program} {f : FuncId} {args : List AV} {R' : CX → St → Prop} {S : St} (h : WC P f args (fun x T => R' x T ∨ ∃ S1, S1.next = S.next ∧ x.val.under S.next 4 = true ∧ Fwd S1 T ∧ R' x S1) S) : WC P f args R' S :=
  wc_pop h fun x T hx => hx.imp id fun ⟨S1, h0, h1, h2, h3⟩ => ⟨h1, by rw [← h0]; exact h2.ok, by rw [← h0, h2.pop]; exact h3⟩
theorem trim_sound {G : Gh} {S : St} {w : World} {b len s : Nat} {T : TypeId} {cs : List AV} {v : Value} (h : Inv G S w) (hb : S.get b = some (.blk cs 0 T)) (hx : RelA G (.sl b 0 len s false) v) (hle : len * s ≤ cs.length) :
    ∃ G', Inv G' ((S.put b .dead).new (.blk (cs.take (len * s)) 0 T)) w ∧ Ext G S w G' ((S.put b .dead).new (.blk (cs.take (len * s)) 0 T)) w ∧ RelA G' (.sl S.next 0 len s false) v := by
  obtain ⟨B, hB, h1, h2, C, lo, hi, h3, h4, h5, h6, h7⟩ := h.obs b _ hb rfl
  obtain ⟨k1, k2, k3⟩ := inv_del h hb rfl hB
  have hle1 := Gh.le_bind (G := G) ⟨B.g, B.o, len * s, B.room⟩ (k1.fresh (S.del b).next (Nat.le_refl _)).1
  obtain ⟨a1, a2, a3⟩ := inv_adopt k1 (.blk (cs.take (len * s)) 0 T) ⟨B.g, B.o, len * s, B.room⟩ (h.born b B hB).1 (h.born b B hB).2 k3 (by
    refine ⟨by rw [List.length_take]; exact (Nat.min_eq_left hle).symm, by rw [List.length_take]; simp only; omega, C, lo, hi, h3, h4, fun i a ha => ?_, h6, h7⟩
    have hi' : i < len * s := by
      have := (List.getElem?_eq_some_iff.1 ha).1
      rw [List.length_take] at this; omega
    rw [List.getElem?_take, if_pos hi'] at ha
    obtain ⟨x, x1, x2, x3⟩ := h5 i a ha
    exact ⟨x, x1, x2.mono hle1, x3⟩) (fun p hp e' => (h.known p hp).2 (by rw [e']; exact .inl ⟨b, _, B, hb, rfl, hB, rfl⟩))
  refine ⟨_, a1, ⟨a2, Nat.le_succ _, Nat.le_refl _, fun _ _ _ => rfl, fun g hg => ?_, rfl, rfl, rfl⟩, ?_⟩
  · rcases a3 g hg with h8 | h8
    · exact k2.own g h8
    · subst h8
      exact .inl (.inl ⟨b, _, B, hb, rfl, hB, rfl⟩)
  · cases hx with
    | sl hB0 ha hl hr hf hk =>
      rw [hB] at hB0
      cases hB0
      refine .sl (B := ⟨B.g, B.o, len * s, B.room⟩) (Gh.bind_self G S.next _) ha hl hr (fun e => by cases e) (fun _ => ?_)
      rw [Nat.zero_add]
      exact Nat.mul_le_mul_right _ hl
theorem wloop_trim {P : Program} {N : Nat} {c : Code} {Q : AQ} {env : Env} {S : St} {b len s t : Nat} {T : TypeId} {cs : List AV} (hb : S.get b = some (.blk cs 0 T)) (hle : len * s ≤ cs.length)
    (hk : env.get t = .sl b 0 len s false) (ht : t < N) (h : WLoop P N c Q (env.set t (.sl S.next 0 len s false)) ((S.put b .dead).new (.blk (cs.take (len * s)) 0 T))) : WLoop P N c Q env S := by
  intro G a w hE hI
  have hx := hE.get t
  rw [hk] at hx
  obtain ⟨G', k1, k2, k3⟩ := trim_sound hI hb hx hle
  have hE' : EnvRel N G' (env.set t (.sl S.next 0 len s false)) a.tmps := by
    refine ⟨hE.1, fun u => ?_⟩
    rw [Env.get_set]
    split
    · rename_i e
      subst e
      exact k3
    · exact (hE.get u).mono k2.le
  exact (h G' a w hE' k1).mono fun e a w k => k.trans k2
end Go.Abs

namespace Go.Abs
theorem leftOf_mem {seen : List Nat} : ∀ {es : List (FV × AV)} {born : List Nat} {p : FV × AV × Nat}, p ∈ leftOf seen es born → ∃ i : Nat, es[i]? = some (p.1, p.2.1) ∧ born[i]? = some p.2.2 ∧ seen.contains p.2.2 = false
  | [], _, p, h => by simp [leftOf] at h
  | _ :: _, [], p, h => by simp [leftOf] at h
  | (k, v) :: es, n :: born, p, h => by
    simp only [leftOf] at h
    cases hc : seen.contains n with
    | true =>
      rw [hc] at h
      obtain ⟨i, h1, h2, h3⟩ := leftOf_mem h
      exact ⟨i + 1, by simpa using h1, by simpa using h2, h3⟩
    | false =>
      rw [hc] at h
      rcases List.mem_cons.1 h with rfl | h
      · exact ⟨0, rfl, rfl, hc⟩
      · obtain ⟨i, h1, h2, h3⟩ := leftOf_mem h
        exact ⟨i + 1, by simpa using h1, by simpa using h2, h3⟩
theorem leftOf_nil {seen : List Nat} : ∀ {es : List (FV × AV)} {born : List Nat}, leftOf seen es born = [] → es.length = born.length → ∀ n ∈ born, seen.contains n = true
  | [], [], _, _, n, h => by simp at h
  | [], _ :: _, _, hl, _, _ => by simp at hl
  | _ :: _, [], _, _, n, h => by simp at h
  | (k, v) :: es, m :: born, h, hl, n, hn => by
    simp only [leftOf] at h
    cases hc : seen.contains m with
    | true =>
      rw [hc] at h
      rcases List.mem_cons.1 hn with rfl | hn
      · exact hc
      · exact leftOf_nil h (by simpa using hl) n hn
    | false => rw [hc] at h; cases h
theorem leftOf_le (seen : List Nat) (x : Nat) : ∀ (es : List (FV × AV)) (born : List Nat), (leftOf (seen ++ [x]) es born).length ≤ (leftOf seen es born).length
  | [], _ => by simp [leftOf]
  | _ :: _, [] => by simp [leftOf]
  | (k, v) :: es, n :: born => by
    have ih := leftOf_le seen x es born
    simp only [leftOf]
    cases hc : seen.contains n with
    | true =>
      have : (seen ++ [x]).contains n = true := by simp at hc ⊢; exact .inl hc
      rw [this]; exact ih
    | false =>
      cases hd : (seen ++ [x]).contains n with
      | true => simp; omega
      | false => simp; exact ih
theorem leftOf_lt {seen : List Nat} : ∀ {es : List (FV × AV)} {born : List Nat} {p : FV × AV × Nat}, p ∈ leftOf seen es born → (leftOf (seen ++ [p.2.2]) es born).length < (leftOf seen es born).length
  | [], _, p, h => by simp [leftOf] at h
  | _ :: _, [], p, h => by simp [leftOf] at h
  | (k, v) :: es, n :: born, p, h => by
    simp only [leftOf] at h ⊢
    cases hc : seen.contains n with
    | true =>
      rw [hc] at h
      have : (seen ++ [p.2.2]).contains n = true := by simp at hc ⊢; exact .inl hc
      rw [this]
      exact leftOf_lt h
    | false =>
      rw [hc] at h
      have hle := leftOf_le seen p.2.2 es born
      rcases List.mem_cons.1 h with rfl | h
      · have : (seen ++ [n]).contains n = true := by simp
        rw [this]
        simp only [cond_true, cond_false, List.length_cons]
        show (leftOf (seen ++ [n]) es born).length < _
        exact Nat.lt_succ_of_le hle
      · have := leftOf_lt h
        cases hd : (seen ++ [p.2.2]).contains n with
        | true => simp; omega
        | false => simp; exact this
theorem resK_next {P : Program} {K : Env → St → Prop} {Q : AQ} {env : Env} {S : St} {d : Option Tmp} {b m clock : Nat} {seen : List Nat} {l : List (FV × AV × Nat)}
    (h0 : l = [] → K (env.setO d (.tup [.c (.bool false)])) S) (h1 : ∀ p ∈ l, K (env.setO d (.tup [.c (.bool true), .c p.1, p.2.1])) (S.put b (.miter m clock (seen ++ [p.2.2])))) :
    resK P K Q env S d (some (nextRes b m clock seen l)) := by
  cases l with
  | nil => exact h0 rfl
  | cons x r =>
    intro q hq
    obtain ⟨p, hp, rfl⟩ := List.mem_map.1 hq
    exact h1 p hp
end Go.Abs

namespace Go.Abs
open Go.RowKit Go.WideShapes Go.ChangeShapes
def ghW (w : World) : Gh := { F := fun g o => w.cell? ⟨g, o, none⟩, ρ := fun _ => none, τ := fun _ => none }
theorem ghW_inv (w : World) : Inv (ghW w) empty.toSt w := by
  refine ⟨⟨es_wf _, fun g o v h => h, fun b ob hb => ?_, fun b b' ob ob' B B' hb => ?_, fun t ht => (by cases ht), fun t t' g x x' ht => (by cases ht), List.nodup_nil, fun b _ => ⟨rfl, rfl⟩, fun b B hB => (by cases hB)⟩, fun p hp => (by cases hp)⟩
  · rw [empty_get] at hb; cases hb
  · rw [empty_get] at hb; cases hb
theorem no_own (G : Gh) (g : Nat) : ¬ Own G empty.toSt g := by
  rintro (⟨b, ob, B, h1, _⟩ | ⟨t, ht, _⟩)
  · rw [empty_get] at h1; cases h1
  · cases ht
section
variable {H : Type} {enc : TypeId × Value → H} {P : Program}
theorem trodAll_stays (hl : laidOutB P = true) {W W' : World} (hb : Below W.heap.size W W') {sp : Nat → Bool} : ∀ {ts : List TypeId} {vs : List Value} {ds : List (DataW H)} {ps : List MemPlace},
    (∀ t ∈ ts, P.readableRec t = true ∧ t < P.types.size) → DataW.TrodAll enc P W 0 (fun _ => true) true ts vs ds ps → (∀ x ∈ ps, x.block < W.heap.size) → (∀ x ∈ ps, sp x.block = true) →
    DataW.TrodAll enc P W' 0 sp true ts vs ds ps
  | [], [], [], ps, _, h, _, _ => h
  | t :: ts, v :: vs, d :: ds, ps, ht, h, h1, h2 => by
    obtain ⟨p, q, k1, k2, rfl⟩ := h
    have hp := ht t (by simp)
    exact ⟨p, q, WideElems.Trod_stays hl hp.1 hp.2 k1 (fun x hx => hb.same (h1 x (by simp [hx]))) (fun x hx => h2 x (by simp [hx])),
      trodAll_stays hl hb (fun t ht' => ht t (by simp [ht'])) k2 (fun x hx => h1 x (by simp [hx])) (fun x hx => h2 x (by simp [hx])), rfl⟩
  | [], _ :: _, _, _, _, h, _, _ => h.elim
  | [], [], _ :: _, _, _, h, _, _ => h.elim
  | _ :: _, [], _, _, _, h, _, _ => h.elim
  | _ :: _, _ :: _, [], _, _, h, _, _ => h.elim
theorem law_post (hl : laidOutB P = true) {f : Func} {s : ChangeSpec} {apart fresh handsOn again : Bool} {W W' : World} {args : Array Value} {ds : List (DataW H)} {before : List MemPlace} {tb : TypeId} (hvars : s.vars = [])
    (hts : ∀ t ∈ f.params.toList, P.readableRec t = true ∧ t < P.types.size) (hres : f.resultTypes = #[tb]) (hbool : P.underlying tb = some .bool)
    (hW : DataW.Whole enc P f.params.toList s.vars apart W args.toList ds [] before) (hr : (s.fn H ds).results = [.lit (.bool true)]) (ha : (s.fn H ds).args = ds) (hv : (s.fn H ds).vars = []) (hb : Below W.heap.size W W') :
    s.post enc P f apart fresh handsOn again W args (.bool true) W' := by
  have hlt : ∀ p ∈ before, p.block < W.heap.size := fun p hp => hW.lt p hp
  have hW0 := hW
  obtain ⟨p, q, hA, hV, hpq, hz, hn⟩ := hW0
  rw [hvars] at hV
  obtain ⟨_, rfl⟩ := trodVars_none hV
  have hbp : before = p := by rw [hpq]; simp
  have hargs : ∀ sp : Nat → Bool, (∀ p ∈ before, sp p.block = true) → DataW.TrodAll enc P W' 0 sp true f.params.toList args.toList (s.fn H (ds ++ [])).args before := by
    intro sp hsp
    rw [List.append_nil, ha]
    rw [hbp] at hsp hlt ⊢
    exact trodAll_stays hl hb hts hA hlt hsp
  have hres' : ∀ (b : Nat) (sp : Nat → Bool) (hd : Bool), DataW.TrodAll enc P W' b sp hd f.resultTypes.toList ((Value.bool true).resultList f.resultTypes.size) (s.fn H (ds ++ [])).results [] := by
    intro b sp hd
    rw [List.append_nil, hr, hres]
    exact trodAll_mk1 (shut_bool hbool true)
  have hvars' : ∀ sp : Nat → Bool, (∀ p ∈ before, sp p.block = true) → DataW.TrodVars enc P W' sp s.vars (s.fn H (ds ++ [])).vars [] := by
    intro sp _
    rw [List.append_nil, hv, hvars]
    exact rfl
  have hold : ∀ p ∈ before, (fun b => decide (b < W.heap.size)) p.block = true := fun p hp => by simpa using hlt p hp
  refine ⟨ds, [], before, [], before, [], hW, hres' _ _ _, hargs _ hold, hvars' _ hold, World.keptBut_mono (fun p hp => ⟨hp, Or.inr (by simpa using hp)⟩) (hb.frame (· ∈ before)), fun _ => ?_⟩
  refine ⟨?_, _, _, ([] ++ before) ++ [], ⟨[] ++ before, [], trodAll_append (hargs _ (fun _ _ => rfl)) (hres' _ _ _), hvars' _ (fun _ _ => rfl), rfl, ?_, ?_⟩, ?_⟩
  · exact ok_one hres rfl (okWide_bool_mk hbool true)
  · intro b off hp
    have hin : MemPlace.cell b off ∈ before := by simpa using hp
    rw [hb.frozen (hlt _ hin)]
    exact hz b off hin
  · intro ha'
    have := hn ha'
    simpa using this
  · intro p hp _
    simpa using hp
end
end Go.Abs

namespace Go.Abs
open Go.RowKit
inductive RelC (F : Nat → Nat → Option Value) : List FV → List Value → Prop
  | nil : RelC F [] []
  | cons {a : FV} {b : Value} {l : List FV} {r : List Value} (h : RelF F a b) (o : oneCell b = true) (t : RelC F l r) : RelC F (a :: l) (b :: r)
section
variable {F : Nat → Nat → Option Value} {l l' : List FV} {r r' : List Value}
theorem RelC.length (h : RelC F l r) : l.length = r.length := by
  induction h with
  | nil => rfl
  | cons h o _ ih => simp [ih]
theorem RelC.append (h : RelC F l r) (k : RelC F l' r') : RelC F (l ++ l') (r ++ r') := by
  induction h with
  | nil => exact k
  | cons h o _ ih => exact .cons h o ih
theorem RelC.get (h : RelC F l r) : ∀ (i : Nat) (a : FV), l[i]? = some a → ∃ b, r[i]? = some b ∧ RelF F a b ∧ oneCell b = true := by
  induction h with
  | nil => intro i a h; simp at h
  | cons h o _ ih =>
    intro i a ha
    cases i with
    | zero => cases ha; exact ⟨_, rfl, h, o⟩
    | succ i => exact ih i a ha
theorem RelC.agg (h : RelC F l r) : RelF F (.agg l) (.agg r.toArray) := .agg _ _ h.length fun i a b ha hb => by
  obtain ⟨b', h1, h2, _⟩ := h.get i a ha
  rw [hb] at h1
  cases h1
  exact h2
theorem RelC.piece {cs : List Value} {o k : Nat} (h : RelC F l ((cs.drop o).take k)) (t : RelC F l' (cs.drop (o + k))) : RelC F (l ++ l') (cs.drop o) := by
  have := h.append t
  rwa [← List.drop_drop, List.take_append_drop] at this
theorem RelC.whole {cs : List Value} (h : RelC F l (cs.drop 0)) : RelC F l cs := h
theorem RelC.done {cs : List Value} {n : Nat} (h : cs.length = n) : RelC F [] (cs.drop n) := by
  rw [List.drop_eq_nil_of_le (by omega)]
  exact .nil
end
theorem flatF_app (xs ys : List FV) : flatF (xs ++ ys) = flatF xs ++ flatF ys := by
  induction xs with
  | nil => rfl
  | cons x r ih => rw [List.cons_append, flatF, flatF, ih, List.append_assoc]
theorem flatF_len {α : Type} {g : α → FV} {s : Nat} (hg : ∀ x, (g x).cells.length = s) (l : List α) : (flatF (l.map g)).length = l.length * s := by
  induction l with
  | nil => simp [flatF]
  | cons x r ih => rw [List.map_cons, flatF, List.length_append, ih, hg, List.length_cons, Nat.add_mul, Nat.one_mul, Nat.add_comm]
section
variable {H : Type} {enc : TypeId × Value → H} {P : Program} {w : World} {base : Nat} {sp : Nat → Bool} {held : Bool}
def Opens (enc : TypeId × Value → H) (P : Program) (w : World) (base : Nat) (sp : Nat → Bool) (held : Bool) (t : TypeId) {α : Type} (f : α → List FV) (B : α → Prop) : Prop :=
  ∀ (n : Nat) (cs : List Value) (x : DataW H × List MemPlace), DataW.trod enc P w base sp held n t cs = some x → (∀ k ∈ x.1.weights P t, k ≤ reachBytes) → ∃ a : α, B a ∧ RelC (ghW w).F (f a) cs
theorem weights_all {e : TypeId} {d : DataW H} : ∀ {ds : List (DataW H)}, d ∈ ds → ∀ k ∈ d.weights P e, k ∈ DataW.weightsAll P e ds
  | x :: r, hd, k, hk => by
    rw [DataW.weightsAll, List.mem_append]
    rcases List.mem_cons.1 hd with rfl | hd
    · exact .inl hk
    · exact .inr (weights_all hd k hk)
variable {t e : TypeId} {α : Type}
theorem opens_int {k : IntKind} (ht : P.underlying t = some (.int k)) : Opens enc P w base sp held t (fun n : Int => [FV.int k n]) (fun _ => True) := fun n cs x h _ => by
  obtain ⟨m, rfl, _⟩ := DataW.trod_int ht h
  exact ⟨m, trivial, .cons (.int _ _) rfl .nil⟩
theorem opens_bool (ht : P.underlying t = some .bool) : Opens enc P w base sp held t (fun b : Bool => [FV.bool b]) (fun _ => True) := fun n cs x h _ => by
  obtain ⟨m, rfl, _⟩ := DataW.trod_bool ht h
  exact ⟨m, trivial, .cons (.bool _) rfl .nil⟩
theorem opens_str (ht : P.underlying t = some .string) : Opens enc P w base sp held t (fun s : List UInt8 => [FV.str s]) (fun s => s.length ≤ 140737488355328) := fun n cs x h hw => by
  obtain ⟨s, rfl, rfl, hs⟩ := DataW.trod_string ht h
  refine ⟨s.data.toList, ?_, .cons (.str s) rfl .nil⟩
  have h1 := hw s.data.toList.length (by simp [DataW.weights])
  exact Nat.le_trans h1 (by decide)
theorem opens_slice {s : Nat} {g : α → FV} {B : α → Prop} (ht : P.underlying t = some (.slice e)) (hc : P.cellsOf e = s) (hs : 0 < s) (hbe : 1 ≤ P.bytesOf e) (hg : ∀ x, (g x).cells.length = s)
    (h : Opens enc P w base sp held e (fun x => (g x).cells) B) : Opens enc P w base sp held t (fun l : List α => [FV.sl (l.map g)]) (fun l => l.length ≤ 140737488355328 ∧ ∀ x ∈ l, B x) := by
  intro n cs x hx hw
  rcases Go.Deep.open_slice ht hx with ⟨rfl, rfl⟩ | ⟨a, len, cap, m, n', D, Pl, rfl, hb, hl, hm, hmm, hx', hel⟩
  · exact ⟨[], ⟨Nat.zero_le _, by simp⟩, .cons .slN rfl .nil⟩
  have hlm : len ≤ m := by rw [hmm]; split <;> omega
  subst hx'
  have hw' : ∀ k ∈ (len + (m - len)) * P.bytesOf e :: (DataW.weightsAll P e ((List.range len).map D) ++ DataW.weightsAll P e ((List.range (m - len)).map fun j => D (len + j))), k ≤ reachBytes := by
    simpa [DataW.weights, ht] using hw
  have hlen : len ≤ 140737488355328 := by
    have h1 := hw' _ (List.mem_cons_self ..)
    have h2 : (len + (m - len)) * 1 ≤ (len + (m - len)) * P.bytesOf e := Nat.mul_le_mul_left _ hbe
    have h3 : reachBytes ≤ 140737488355328 := by decide
    omega
  have hex : ∀ i, i < len → ∃ y : α, B y ∧ ∀ j c, (g y).cells[j]? = some c → ∃ v, w.cell? ((a.add (i * s)).add j) = some v ∧ RelF (ghW w).F c v ∧ oneCell v = true := by
    intro i hi
    obtain ⟨cs', h1, h2⟩ := hel i (by omega)
    rw [hc] at h1
    obtain ⟨y, hy, hr⟩ := h _ _ _ h2 fun k hk => hw' k (List.mem_cons_of_mem _ (List.mem_append_left _ (weights_all (List.mem_map.2 ⟨i, List.mem_range.2 hi, rfl⟩) k hk)))
    obtain ⟨_, h3, h4⟩ := World.cells?_some h1
    refine ⟨y, hy, fun j c hj => ?_⟩
    obtain ⟨v, k1, k2, k3⟩ := hr.get j c hj
    have hjs : j < s := by rw [← hg y]; exact (List.getElem?_eq_some_iff.1 hj).1
    exact ⟨v, by rw [h4 j hjs, k1], k2, k3⟩
  rcases Nat.eq_zero_or_pos len with rfl | hpos
  · exact ⟨[], ⟨Nat.zero_le _, by simp⟩, .cons (.sl0 a cap) rfl .nil⟩
  have hspot : a.spot = none := by
    obtain ⟨y, _, hy⟩ := hex 0 hpos
    obtain ⟨c, hc0⟩ : ∃ c, (g y).cells[0]? = some c := by
      have hlen := hg y
      cases hq : (g y).cells with
      | nil => rw [hq, List.length_nil] at hlen; omega
      | cons c r => exact ⟨c, rfl⟩
    obtain ⟨v, hv, _⟩ := hy 0 c hc0
    have e : (a.add (0 * s)).add 0 = a := by simp [Addr.add]
    rw [e] at hv
    unfold World.cell? at hv
    split at hv
    · split at hv
      · cases hv
      · rename_i hn
        simpa using hn
    · cases hv
  obtain ⟨b, o, spot⟩ := a
  cases hspot
  have hlist : ∀ k, k ≤ len → ∃ l : List α, l.length = k ∧ (∀ x ∈ l, B x) ∧ ∀ j c, (flatF (l.map g))[j]? = some c → ∃ v, w.cell? ⟨b, o + j, none⟩ = some v ∧ RelF (ghW w).F c v ∧ oneCell v = true := by
    intro k
    induction k with
    | zero => exact fun _ => ⟨[], rfl, by simp, fun j c h => by simp [flatF] at h⟩
    | succ k ih =>
      intro hk
      obtain ⟨l, h1, h2, h3⟩ := ih (by omega)
      obtain ⟨y, hy, hr⟩ := hex k (by omega)
      refine ⟨l ++ [y], by simp [h1], fun x hx => ?_, fun j c hj => ?_⟩
      · rcases List.mem_append.1 hx with hx | hx
        · exact h2 x hx
        · rw [List.mem_singleton.1 hx]; exact hy
      · rw [List.map_append, flatF_app] at hj
        rcases Nat.lt_or_ge j (flatF (l.map g)).length with hlt | hge
        · rw [List.getElem?_append_left hlt] at hj
          exact h3 j c hj
        · rw [List.getElem?_append_right hge] at hj
          have e : flatF ([y].map g) = (g y).cells := by simp [flatF]
          rw [e] at hj
          obtain ⟨v, k1, k2⟩ := hr _ c hj
          rw [Addr_add, Addr_add] at k1
          rw [flatF_len hg, h1] at k1 hge
          rw [show o + k * s + (j - k * s) = o + j by omega] at k1
          exact ⟨v, k1, k2⟩
  obtain ⟨l, h1, h2, h3⟩ := hlist len (Nat.le_refl _)
  refine ⟨l, ⟨by omega, h2⟩, .cons ?_ rfl .nil⟩
  have hrel := RelF.sl (F := (ghW w).F) (l.map g) b o s cap (fun j => (w.cell? ⟨b, o + j, none⟩).getD .nilIface) (fun x hx => by
      obtain ⟨y, _, rfl⟩ := List.mem_map.1 hx
      exact hg y) (by rw [List.length_map, h1]; exact hl)
    (fun i c hi => by obtain ⟨v, k1, k2, k3⟩ := h3 i c hi; show w.cell? _ = _; rw [k1]; rfl)
    (fun i c hi => by obtain ⟨v, k1, k2, k3⟩ := h3 i c hi; simp only [k1, Option.getD_some]; exact k2)
    (fun i c hi => by obtain ⟨v, k1, k2, k3⟩ := h3 i c hi; simp only [k1, Option.getD_some]; exact k3)
  rw [List.length_map, h1] at hrel
  exact hrel
theorem opens_field {fs : Array Field} {n : Nat} {cs : List Value} {x : DataW H × List MemPlace} (ht : P.underlying t = some (.struct fs)) (hx : DataW.trod enc P w base sp held n t cs = some x) (hw : ∀ k ∈ x.1.weights P t, k ≤ reachBytes)
    (i : Nat) {f : Field} (hf : fs[i]? = some f) {k o : Nat} {tt : TypeId} (ho : f.offset = o) (htt : f.type = tt) (hk : P.cellsOf tt = k) {g : α → List FV} {B : α → Prop}
    (h : Opens enc P w base sp held tt g B) : ∃ a, B a ∧ RelC (ghW w).F (g a) ((cs.drop o).take k) := by
  obtain ⟨xs, m, _, rfl, _, hl, hg⟩ := DataW.trod_struct ht hx
  have h1 := hg i f hf
  rw [ho, htt, hk] at h1
  have hi : i < fs.size := (Array.getElem?_eq_some_iff.1 hf).1
  rw [List.getElem?_eq_getElem (by omega)] at h1
  refine h _ _ _ h1 fun k hk => hw k ?_
  have e1 : (DataW.agg (xs.map (·.1)) : DataW H).weights P t = DataW.weightsEach P (fs.toList.map (·.type)) (xs.map (·.1)) := by simp [DataW.weights, ht]
  show k ∈ (DataW.agg (xs.map (·.1)) : DataW H).weights P t
  rw [e1]
  exact DataW.weights_mem_each (j := i) (by rw [List.getElem?_map, Array.getElem?_toList, hf]; simp [htt]) (by rw [List.getElem?_map, List.getElem?_eq_getElem (by omega : i < xs.length)]; rfl) k hk
theorem opens_size {fs : Array Field} {n k : Nat} {cs : List Value} {x : DataW H × List MemPlace} (ht : P.underlying t = some (.struct fs)) (hx : DataW.trod enc P w base sp held n t cs = some x) (hk : P.cellsOf t = k) : cs.length = k := by
  obtain ⟨_, _, _, _, h, _, _⟩ := DataW.trod_struct ht hx
  rw [h, hk]
theorem opens_arg_struct {fs : Array Field} {f : α → List FV} {B : α → Prop} {r : Reach} {b0 : Nat} {v : Value} {d : DataW H} {ps : List MemPlace} (ht : P.underlying t = some (.struct fs)) (h : Opens enc P w base sp held t f B)
    (hv : Value.okWide P w r b0 t v) (hd : DataW.Trod enc P w base sp held t v d ps) (hw : ∀ k ∈ d.weights P t, k ≤ reachBytes) : ∃ a, B a ∧ RelF (ghW w).F (.agg (f a)) v := by
  obtain ⟨cs, rfl, hsz⟩ := Go.WideShapes.okWide_struct ht hv
  obtain ⟨fuel, hf⟩ := hd
  obtain ⟨a, h1, h2⟩ := h _ _ _ hf hw
  refine ⟨a, h1, ?_⟩
  have := h2.agg
  simpa [Value.cells] using this
theorem opens_arg_slice {g : α → FV} {B : List α → Prop} {r : Reach} {b0 : Nat} {v : Value} {d : DataW H} {ps : List MemPlace} (ht : P.underlying t = some (.slice e)) (h : Opens enc P w base sp held t (fun l : List α => [FV.sl (l.map g)]) B)
    (hv : Value.okWide P w r b0 t v) (hd : DataW.Trod enc P w base sp held t v d ps) (hw : ∀ k ∈ d.weights P t, k ≤ reachBytes) : ∃ a, B a ∧ RelF (ghW w).F (.sl (a.map g)) v := by
  obtain ⟨a, len, cap, rfl⟩ := Go.WideShapes.okWide_slice ht hv
  obtain ⟨fuel, hf⟩ := hd
  obtain ⟨l, h1, h2⟩ := h _ _ _ hf hw
  refine ⟨l, h1, ?_⟩
  obtain ⟨b, k1, k2, _⟩ := h2.get 0 _ rfl
  cases k1
  exact k2
theorem opens_arg_str {r : Reach} {b0 : Nat} {v : Value} {d : DataW H} {ps : List MemPlace} (ht : P.underlying t = some .string)
    (hv : Value.okWide P w r b0 t v) (hd : DataW.Trod enc P w base sp held t v d ps) (hw : ∀ k ∈ d.weights P t, k ≤ reachBytes) : ∃ s : List UInt8, s.length ≤ 140737488355328 ∧ RelF (ghW w).F (.str s) v := by
  obtain ⟨s, rfl, rfl, _, hs⟩ := Go.ChangeMaps.open_string ht hv hd
  exact ⟨s.data.toList, Nat.le_trans (hw s.data.toList.length (by simp [DataW.weights])) (by decide), .str s⟩
end
def knownSt (K : List (Nat × List Value)) : St := { empty.toSt with known := K }
theorem ghW_inv_known {w : World} {K : List (Nat × List Value)} (hK : ∀ p ∈ K, ∃ T fr, w.heap[p.1]? = some (.cells p.2.toArray T fr)) : Inv (ghW w) (knownSt K) w := by
  have h := ghW_inv w
  exact ⟨⟨h.wf, h.cells, h.obs, h.apart, h.spare, h.tags, h.nodup, h.fresh, h.born⟩, fun p hp => ⟨hK p hp, no_own _ _⟩⟩
theorem calls_of_wc_known {P : Program} {f : FuncId} {args : List AV} {b : Bool} {vals : List Value} {w : World} {K : List (Nat × List Value)} (hK : ∀ p ∈ K, ∃ T fr, w.heap[p.1]? = some (.cells p.2.toArray T fr))
    (hrun : ∀ vals w, Sem.run P (callFunc f vals) w = .ok (.enter f vals) w)
    (h : WC P f args (Is (.c (.bool b)) (knownSt K)) (knownSt K)) (hr : RelL (ghW w) args vals) : Calls P f vals.toArray w (fun e w' => e = .returned (.bool b) ∧ Below w.heap.size w w') := by
  have := h (ghW w) vals w hr (ghW_inv_known hK)
  unfold Upon at this
  rw [hrun] at this
  refine Calls.mono this ?_
  rintro e w' ⟨x, S', G', ⟨rfl, rfl⟩, k1, k2, k3⟩
  refine ⟨?_, ⟨k3.os, k3.tape, k3.output, k3.size, fun g hg => k3.same g hg (no_own _ g)⟩⟩
  cases e with
  | returned y => cases relA_c k1; rfl
  | panicked ch => exact k1.elim
  | outgrown => exact k1.elim
end Go.Abs

namespace Go.Abs
def leavesA (P : Program) (rs : List ResultVar) (B : Nat) (R : CX → St → Prop) (env : Env) : List DA → St → Prop
  | [], S => endR P B R S (resAs P env S rs)
  | (f, aq) :: D, S => (∀ vals w, Sem.run P (callFunc f vals) w = .ok (.enter f vals) w) ∧
      WDc P f aq (fun x M S' => x = .ret (.tup []) ∧ M = .ret ∧ leavesA P rs B R env D S') .ret S
def bodyN (P : Program) (rs : List ResultVar) (B : Nat) (R : CX → St → Prop) : EQ
  | .normal, D, env, S => leavesA P rs B R env D S
  | .ret, D, env, S => leavesA P rs B R env D S
  | _, _, _, _ => False
theorem drel_cons {G : Gh} {p : DA} {D : List DA} {ds : List Deferred} (h : DRel G (p :: D) ds) : ∃ d ds' caps, ds = d :: ds' ∧ d.target = .fn (.func p.1) caps ∧ RelL G p.2 (d.args ++ caps).toList ∧ DRel G D ds' := by
  match ds, h with
  | d :: ds', h =>
    obtain ⟨caps, h1, h2⟩ := h.2 0 p d rfl rfl
    exact ⟨d, ds', caps, rfl, h1, h2, by have := h.1; simp only [List.length_cons] at this; omega, fun i q e hq he => h.2 (i + 1) q e (by simpa using hq) (by simpa using he)⟩
  | [], h => have := h.1; simp at this
theorem leavesA_sound {P : Program} {fn : Func} {G : Gh} {S : St} {w : World} {R : CX → St → Prop} {env : Env} {tmps : Array Value} (hI : Inv G S w) : ∀ (D : List DA) (ds : List Deferred) (G' : Gh) (S' : St) (w' : World),
    EnvRel fn.ntmps G' env tmps → Inv G' S' w' → Ext G S w G' S' w' → DRel G' D ds → leavesA P fn.results.toList S.next R env D S' → Leaves P fn tmps (CPost G S w R) ds .returning w'
  | [], ds, G', S', w', hE, hI', hX, hD, h => by
    rw [drel_nil hD]
    have hR' := endR_resultA (fn := fn) h
    split at hR'
    · rename_i v hv
      obtain ⟨y, y1, y2⟩ := resultA_sound (P := P) hE hI' hv
      exact ⟨y, y1, ends_sound hI hI' hX y2 hR'⟩
    · exact hR'.elim
  | (g, aq) :: D, ds, G', S', w', hE, hI', hX, hD, h => by
    obtain ⟨hg, hW⟩ := h
    obtain ⟨d, ds', caps, hds, ht, hrel', hD'⟩ := drel_cons hD
    rw [hds]
    obtain ⟨tgt, dargs⟩ := d
    simp only at ht hrel'
    subst ht
    refine leaves_cons (f := g) (args := dargs ++ caps) (by simp) (by simp only [invoke]; exact hg _ _) ?_
    have := hW G' (dargs ++ caps).toList w' .returning hrel' hI' rfl
    simp only [Array.toArray_toList] at this
    refine this.mono ?_
    rintro e2 u2 w2 ⟨x2, M2, S2, G2, ⟨rfl, rfl, m1⟩, m2, m3, m4, m5⟩
    have : u2 = .returning := m3
    subst this
    cases e2 with
    | returned y => exact leavesA_sound hI D ds' G2 S2 w2 (hE.mono m5.le) m4 (hX.trans m5) (hD'.mono m5.le) m1
    | panicked ch => exact m2.elim
    | outgrown => exact m2.elim
theorem wc_fn_defers {P : Program} {f : FuncId} {fn : Func} {c : Code} {N : Nat} {rs : List ResultVar} (hf : P.funcs[f]? = some fn) (hn : (fn.name == "runtime.NumGoroutine") = false) (hb : fn.body = some c)
    (hN : fn.ntmps = N) (hr : fn.results.toList = rs) {args : List AV} {R : CX → St → Prop} {S : St} (hlen : Nat.ble args.length N = true) (h : Shut S → WE P N c (bodyN P rs S.next R) [] (envOf args 0) S) : WC P f args R S := by
  subst hN; subst hr
  intro G vals w hrel hI
  have hrun : Sem.run P (callFunc f vals.toArray) w = .ok (.enter f vals.toArray) w := by
    have hn' : ¬ fn.name = "runtime.NumGoroutine" := by simpa using hn
    simp [callFunc, program, hf, hn', hb, Sem.run]
  unfold Upon
  rw [hrun]
  simp only
  refine calls_of_wp_defers hf hb ?_
  refine wp_mono (h (inv_shut hI) G _ w (envRel_args hrel (Nat.le_of_ble_eq_true hlen)) hI (.nil G)) ?_
  rintro e a w' ⟨x, D, env', S', G', k1, k2, k3, k4, k5, k6⟩
  cases x with
  | normal =>
    cases e with
    | normal => exact leavesA_sound hI D _ G' S' w' k3 k4 k5 k6 k1
    | _ => exact k2.elim
  | ret =>
    cases e with
    | ret => exact leavesA_sound hI D _ G' S' w' k3 k4 k5 k6 k1
    | _ => exact k2.elim
  | exit i => exact k1.elim
  | panic v => exact k1.elim
theorem wdc_of_wf {P : Program} {f : FuncId} {fn : Func} {c : Code} {N : Nat} (hf : P.funcs[f]? = some fn) (hb : fn.body = some c) (hN : fn.ntmps = N) (hr : fn.results.toList = []) {args : List AV} {R : CX → DM → St → Prop} {M : DM} {S : St}
    (hlen : Nat.ble args.length N = true) (h : Shut S → W P N c (fun x e s => bodyF R x M e s) (envOf args 0) S) : WDc P f args R M S :=
  wd_fn hf hb hN hr hlen fun hS => wf_of_w (h hS)
theorem we_cond {P : Program} {N : Nat} {c : Operand} {x y : Code} {Q : EQ} {D : List DA} {env : Env} {S : St} {t : Bool} (hc : opnd env c = some (.c (.bool t)))
    (ht : t = true → WE P N x Q D env S) (hf : t = false → WE P N y Q D env S) : WE P N (.cond c x y) Q D env S := by
  intro G a w hE hI hD
  have hr := relA_c (opnd_rel hE hc)
  have : a.eval c = .bool t := by generalize a.eval c = z at hr; cases hr; rfl
  exact wp_cond_split this (fun h => ht h G a w hE hI hD) (fun h => hf h G a w hE hI hD)
end Go.Abs

namespace Go.Tx
def nameList : List (List UInt8) := [[67, 45], [67, 35], [68, 45], [68, 35], [69, 45], [70, 45], [70, 35], [71, 45], [71, 35], [65, 45], [65, 35], [66, 45]]
def toneName (x : Int) : List UInt8 := if 0 ≤ x ∧ x ≤ 119 then nameList.getD (x.toNat % 12) [] ++ [UInt8.ofNat (48 + x.toNat / 12)] else []
theorem names_len (i : Nat) : (nameList.getD (i % 12) []).length = 2 := by
  have : i % 12 < 12 := Nat.mod_lt _ (by decide)
  generalize i % 12 = k at this
  match k, this with
  | 0, _ | 1, _ | 2, _ | 3, _ | 4, _ | 5, _ | 6, _ | 7, _ | 8, _ | 9, _ | 10, _ | 11, _ => rfl
def notedT (n : Int) : List UInt8 := if n = 0 then [46, 46, 46] else if n = 255 then [61, 61, 61] else if n = 254 then [94, 94, 94] else if n = 253 then [126, 126, 126] else toneName (n - 1)
def vnote (a : Int) : Bool := (decide (0 ≤ a) && decide (a ≤ 120)) || a == 253 || a == 254 || a == 255
def vpart (most1 most2 : Int) (c d : Int) : Bool := (decide (0 ≤ c) && decide (c ≤ most1)) && (decide (0 ≤ d) && decide (d ≤ most2)) && (decide (c > 0) || d == 0)
def validC (a b c d e f : Int) : Bool := vnote a && (decide (0 ≤ b) && decide (b ≤ 31)) && vpart 12 99 c d && vpart 36 255 e f
def plc (b : Int) : List UInt8 → Nat → Int
  | [], _ => -1
  | x :: r, i => if (x.toNat : Int) = b then i else plc b r (i + 1)
def effs : List UInt8 := [48, 49, 50, 51, 52, 53, 54, 55, 56, 57, 65, 66, 67, 68, 69, 70, 71, 72, 73, 74, 75, 76, 77, 78, 79, 80, 81, 82, 83, 84, 85, 86, 87, 88, 89, 90]
theorem effs_len : effs.length = 36 := rfl
def dig (i : Int) : UInt8 := effs.getD i.toNat 0
def instT (b : Int) : List UInt8 := if 0 < b then [dig (b / 10), dig (b % 10)] else [46, 46]
def volT (c d : Int) : List UInt8 := if 0 < c then [UInt8.ofNat (96 + c.toNat), dig (d / 10), dig (d % 10)] else [46, 46, 46]
def effT (e f : Int) : List UInt8 := if 0 < e then [dig (e - 1), dig (f / 16), dig (f % 16)] else [46, 46, 46]
def cellT (a b c d e f : Int) : List UInt8 := notedT a ++ 32 :: (instT b ++ 32 :: (volT c d ++ 32 :: effT e f))
theorem toneName_len (x : Int) : (toneName x).length ≤ 3 := by
  unfold toneName
  split
  · have := names_len x.toNat
    simp only [List.length_append, this, List.length_cons, List.length_nil]
    omega
  · simp
theorem notedT_len (a : Int) : (notedT a).length ≤ 3 := by
  have := toneName_len (a - 1)
  unfold notedT
  repeat' split
  all_goals first | exact this | simp
theorem plc_bound (b : Int) : ∀ (s : List UInt8) (i : Nat), plc b s i = -1 ∨ (∃ k : Nat, plc b s i = ((i + k : Nat) : Int) ∧ k < s.length)
  | [], i => .inl rfl
  | x :: r, i => by
    simp only [plc]
    split
    · exact .inr ⟨0, by simp, by simp⟩
    · rcases plc_bound b r (i + 1) with h | ⟨k, h1, h2⟩
      · exact .inl h
      · exact .inr ⟨k + 1, by rw [h1]; congr 1; omega, by simp; omega⟩
theorem plc_none (b : Int) : ∀ (s : List UInt8) (i : Nat), (∀ x ∈ s, (x.toNat : Int) ≠ b) → plc b s i = -1
  | [], _, _ => rfl
  | x :: r, i, h => by
    simp only [plc]
    rw [if_neg (h x (by simp)), plc_none b r (i + 1) fun y hy => h y (by simp [hy])]
def dgv (bs : Nat) (x : UInt8) : Int := plc (x.toNat : Int) (effs.take bs) 0
def dg2 (bs : Nat) (x y : UInt8) : Int := if dgv bs x < 0 then -1 else if dgv bs y < 0 then -1 else dgv bs x * bs + dgv bs y
theorem effs_ascii : ∀ x ∈ effs, x.toNat < 128 := by decide
theorem dgv_bound (bs : Nat) (hb : bs ≤ 36) (x : UInt8) : dgv bs x = -1 ∨ (0 ≤ dgv bs x ∧ dgv bs x < bs) := by
  rcases plc_bound (x.toNat : Int) (effs.take bs) 0 with h | ⟨k, h1, h2⟩
  · exact .inl h
  · refine .inr ?_
    unfold dgv
    rw [h1]
    simp only [List.length_take, effs_len] at h2
    omega
def findN (p : List UInt8) : List (List UInt8) → Nat → Option Nat
  | [], _ => none
  | x :: r, i => if x = p then some i else findN p r (i + 1)
def noteV : List UInt8 → Option Nat
  | [a, b, c] => if 48 ≤ c.toNat ∧ c.toNat ≤ 57 then (findN [a, b] nameList 0).map fun i => 12 * (c.toNat - 48) + i else none
  | _ => none
theorem findN_spec (p : List UInt8) : ∀ {l : List (List UInt8)} {i j : Nat}, findN p l i = some j → ∃ k, j = i + k ∧ l[k]? = some p
  | [], i, j, h => by cases h
  | x :: r, i, j, h => by
    simp only [findN] at h
    split at h
    · rename_i e
      cases h
      exact ⟨0, rfl, by simp [e]⟩
    · obtain ⟨k, h1, h2⟩ := findN_spec p h
      exact ⟨k + 1, by omega, by simpa using h2⟩
theorem noteV_name : ∀ n : Fin 120, noteV (toneName n.val) = some n.val := by decide
theorem name_noteV {l : List UInt8} {n : Nat} (h : noteV l = some n) : n < 120 ∧ toneName n = l := by
  unfold noteV at h
  split at h
  · rename_i a b c
    split at h
    · rename_i hc
      cases hf : findN [a, b] nameList 0 with
      | none => rw [hf] at h; cases h
      | some i =>
        rw [hf] at h
        simp only [Option.map_some, Option.some.injEq] at h
        subst h
        obtain ⟨k, h1, h2⟩ := findN_spec _ hf
        have hk : k < 12 := (List.getElem?_eq_some_iff.1 h2).1
        obtain rfl : i = k := by omega
        have e1 : (12 * (c.toNat - 48) + i) % 12 = i := by omega
        have e2 : (12 * (c.toNat - 48) + i) / 12 = c.toNat - 48 := by omega
        have e3 : nameList.getD i [] = [a, b] := by simp [List.getD, h2]
        refine ⟨by omega, ?_⟩
        unfold toneName
        rw [if_pos (by omega), Int.toNat_natCast, e1, e2, e3]
        have : UInt8.ofNat (48 + (c.toNat - 48)) = c := by
          rw [show 48 + (c.toNat - 48) = c.toNat by omega]; simp
        rw [this]; rfl
    · cases h
  · cases h
def pNote (l : List UInt8) : Option Int :=
  match noteV l with
  | some k => some (k + 1)
  | none => if l = [46, 46, 46] then some 0 else if l = [61, 61, 61] then some 255 else if l = [94, 94, 94] then some 254 else if l = [126, 126, 126] then some 253 else none
def pInst (d e : UInt8) : Option Int := if d = 46 ∧ e = 46 then some 0 else if dg2 10 d e < 1 then none else some (dg2 10 d e)
def pVol (f g h : UInt8) : Option (Int × Int) := if f = 46 ∧ g = 46 ∧ h = 46 then some (0, 0) else if (f.toNat : Int) - 97 + 1 < 1 ∨ dg2 10 g h < 0 then none else some ((f.toNat : Int) - 97 + 1, dg2 10 g h)
def pEff (i j k : UInt8) : Option (Int × Int) := if i = 46 ∧ j = 46 ∧ k = 46 then some (0, 0) else if plc (i.toNat : Int) effs 0 + 1 < 1 ∨ dg2 16 j k < 0 then none else some (plc (i.toNat : Int) effs 0 + 1, dg2 16 j k)
def pAll (n : Option Int) (b : Option Int) (v : Option (Int × Int)) (x : Option (Int × Int)) : Option (Int × Int × Int × Int × Int × Int) :=
  match n, b, v, x with
  | some n, some b, some (c, d), some (e, f) => if validC n b c d e f = true then some (n, b, c, d, e, f) else none
  | _, _, _, _ => none
def parseP : List UInt8 → Option (Int × Int × Int × Int × Int × Int)
  | [a, b, c, s1, d, e, s2, f, g, h, s3, i, j, k] => if s1 = 32 ∧ s2 = 32 ∧ s3 = 32 then pAll (pNote [a, b, c]) (pInst d e) (pVol f g h) (pEff i j k) else none
  | _ => none
def markN : Nat → Int
  | 0 => 255
  | 1 => 254
  | _ => 253
def noteS (l : List UInt8) : Nat → Int
  | 0 => 0
  | i + 1 => if l = notedT (markN i) then markN i else noteS l i
def gNote (l : List UInt8) : Int :=
  match noteV l with
  | some n => n + 1
  | none => noteS l 3
def gInst (d e : UInt8) : Int := if d = 46 then 0 else 10 * (((d.toNat : Int) - 48) % 256) + (e.toNat : Int) - 48
def gVol (f g h : UInt8) : Int × Int := if f = 46 then (0, 0) else ((f.toNat : Int) - 97 + 1, 10 * ((g.toNat : Int) - 48) + (h.toNat : Int) - 48)
def gEff (i j k : UInt8) : Int × Int := if i = 46 then (0, 0) else (1 + plc (i.toNat : Int) effs 0, 16 * plc (j.toNat : Int) (effs.take 16) 0 + plc (k.toNat : Int) (effs.take 16) 0)
def gAll (l : List UInt8) (n b c d e f : Int) : Option (Int × Int × Int × Int × Int × Int) :=
  if validC n b c d e f = true ∧ cellT n b c d e f = l then some (n, b, c, d, e, f) else none
def parseR : List UInt8 → Option (Int × Int × Int × Int × Int × Int)
  | [a, b, c, s1, d, e, s2, f, g, h, s3, i, j, k] =>
    gAll [a, b, c, s1, d, e, s2, f, g, h, s3, i, j, k] (gNote [a, b, c]) (gInst d e) (gVol f g h).1 (gVol f g h).2 (gEff i j k).1 (gEff i j k).2
  | _ => none
theorem dig_dgv10 : ∀ k : Fin 10, dgv 10 (dig (k.val : Int)) = k.val := by decide
theorem dig_dgv16 : ∀ k : Fin 16, dgv 16 (dig (k.val : Int)) = k.val := by decide
theorem dig_plc36 : ∀ k : Fin 36, plc ((dig (k.val : Int)).toNat : Int) effs 0 = k.val := by decide
theorem dig_ne46 : ∀ k : Fin 36, dig (k.val : Int) ≠ 46 := by decide
theorem dig_val10 : ∀ k : Fin 10, ((dig (k.val : Int)).toNat : Int) = 48 + k.val := by decide
theorem dgv10 (k : Int) (h0 : 0 ≤ k) (h1 : k < 10) : dgv 10 (dig k) = k := by
  have := dig_dgv10 ⟨k.toNat, by omega⟩
  simpa [Int.toNat_of_nonneg h0] using this
theorem dgv16 (k : Int) (h0 : 0 ≤ k) (h1 : k < 16) : dgv 16 (dig k) = k := by
  have := dig_dgv16 ⟨k.toNat, by omega⟩
  simpa [Int.toNat_of_nonneg h0] using this
theorem plc36 (k : Int) (h0 : 0 ≤ k) (h1 : k < 36) : plc ((dig k).toNat : Int) effs 0 = k := by
  have := dig_plc36 ⟨k.toNat, by omega⟩
  simpa [Int.toNat_of_nonneg h0] using this
theorem ne46 (k : Int) (h0 : 0 ≤ k) (h1 : k < 36) : dig k ≠ 46 := by
  have := dig_ne46 ⟨k.toNat, by omega⟩
  simpa [Int.toNat_of_nonneg h0] using this
theorem val10 (k : Int) (h0 : 0 ≤ k) (h1 : k < 10) : ((dig k).toNat : Int) = 48 + k := by
  have := dig_val10 ⟨k.toNat, by omega⟩
  simpa [Int.toNat_of_nonneg h0] using this
theorem dg2_10 (n : Int) (h0 : 0 ≤ n) (h1 : n ≤ 99) : dg2 10 (dig (n / 10)) (dig (n % 10)) = n := by
  rw [dg2, dgv10 _ (by omega) (by omega), dgv10 _ (by omega) (by omega), if_neg (by omega), if_neg (by omega)]
  omega
theorem dg2_16 (n : Int) (h0 : 0 ≤ n) (h1 : n ≤ 255) : dg2 16 (dig (n / 16)) (dig (n % 16)) = n := by
  rw [dg2, dgv16 _ (by omega) (by omega), dgv16 _ (by omega) (by omega), if_neg (by omega), if_neg (by omega)]
  omega
theorem note_cases {a : Int} (h : vnote a = true) : a = 0 ∨ a = 255 ∨ a = 254 ∨ a = 253 ∨ ∃ n : Nat, n < 120 ∧ a = n + 1 := by
  simp only [vnote, Bool.and_eq_true, Bool.or_eq_true, decide_eq_true_eq, beq_iff_eq] at h
  by_cases h0 : a = 0
  · exact .inl h0
  · by_cases h1 : a ≤ 120
    · exact .inr (.inr (.inr (.inr ⟨(a - 1).toNat, by omega, by omega⟩)))
    · omega
theorem noted_key (n : Nat) (h : n < 120) : notedT ((n : Int) + 1) = toneName n := by
  unfold notedT
  rw [if_neg (by omega), if_neg (by omega), if_neg (by omega), if_neg (by omega)]
  congr 1; omega
theorem pNote_noted {a : Int} (h : vnote a = true) : pNote (notedT a) = some a ∧ gNote (notedT a) = a ∧ (notedT a).length = 3 := by
  rcases note_cases h with rfl | rfl | rfl | rfl | ⟨n, hn, rfl⟩
  · exact ⟨by decide, by decide, by decide⟩
  · exact ⟨by decide, by decide, by decide⟩
  · exact ⟨by decide, by decide, by decide⟩
  · exact ⟨by decide, by decide, by decide⟩
  · rw [noted_key n hn]
    have := noteV_name ⟨n, hn⟩
    simp only at this
    refine ⟨by simp [pNote, this], by simp [gNote, this], ?_⟩
    unfold toneName
    rw [if_pos (by omega)]
    simp only [List.length_append, names_len, List.length_cons, List.length_nil]
theorem pInst_inst {b : Int} (h0 : 0 ≤ b) (h1 : b ≤ 31) : ∃ x y, instT b = [x, y] ∧ pInst x y = some b ∧ gInst x y = b := by
  by_cases hb : 0 < b
  · refine ⟨dig (b / 10), dig (b % 10), by rw [instT, if_pos hb], ?_, ?_⟩
    · rw [pInst, if_neg (fun h => ne46 (b / 10) (by omega) (by omega) h.1), dg2_10 b h0 (by omega), if_neg (by omega)]
    · rw [gInst, if_neg (ne46 (b / 10) (by omega) (by omega)), val10 _ (by omega) (by omega), val10 _ (by omega) (by omega)]
      omega
  · obtain rfl : b = 0 := by omega
    exact ⟨46, 46, rfl, rfl, rfl⟩
theorem pVol_vol {c d : Int} (h : vpart 12 99 c d = true) : ∃ x y z, volT c d = [x, y, z] ∧ pVol x y z = some (c, d) ∧ gVol x y z = (c, d) := by
  simp only [vpart, Bool.and_eq_true, Bool.or_eq_true, decide_eq_true_eq, beq_iff_eq] at h
  obtain ⟨⟨⟨c0, c1⟩, d0, d1⟩, hcd⟩ := h
  by_cases hc : 0 < c
  · have hx : ((UInt8.ofNat (96 + c.toNat)).toNat : Int) = 96 + c := by
      rw [UInt8.toNat_ofNat', Nat.mod_eq_of_lt (by omega)]; omega
    have hn : UInt8.ofNat (96 + c.toNat) ≠ 46 := by
      intro h; rw [h] at hx
      have : (((46 : UInt8).toNat : Nat) : Int) = 46 := rfl
      omega
    refine ⟨UInt8.ofNat (96 + c.toNat), dig (d / 10), dig (d % 10), by rw [volT, if_pos hc], ?_, ?_⟩
    · rw [pVol, if_neg (fun h => hn h.1), hx, dg2_10 d d0 d1, if_neg (by omega)]
      congr 2; omega
    · rw [gVol, if_neg hn, hx, val10 _ (by omega) (by omega), val10 _ (by omega) (by omega)]
      congr 1 <;> omega
  · obtain rfl : c = 0 := by omega
    obtain rfl : d = 0 := by omega
    exact ⟨46, 46, 46, rfl, rfl, rfl⟩
theorem pEff_eff {e f : Int} (h : vpart 36 255 e f = true) : ∃ x y z, effT e f = [x, y, z] ∧ pEff x y z = some (e, f) ∧ gEff x y z = (e, f) := by
  simp only [vpart, Bool.and_eq_true, Bool.or_eq_true, decide_eq_true_eq, beq_iff_eq] at h
  obtain ⟨⟨⟨e0, e1⟩, f0, f1⟩, hef⟩ := h
  by_cases he : 0 < e
  · have hn := ne46 (e - 1) (by omega) (by omega)
    refine ⟨dig (e - 1), dig (f / 16), dig (f % 16), by rw [effT, if_pos he], ?_, ?_⟩
    · rw [pEff, if_neg (fun h => hn h.1), plc36 (e - 1) (by omega) (by omega), dg2_16 f f0 f1, if_neg (by omega)]
      congr 2; omega
    · have g1 := dgv16 (f / 16) (by omega) (by omega)
      have g2 := dgv16 (f % 16) (by omega) (by omega)
      unfold dgv at g1 g2
      rw [gEff, if_neg hn, plc36 (e - 1) (by omega) (by omega), g1, g2]
      congr 1 <;> omega
  · obtain rfl : e = 0 := by omega
    obtain rfl : f = 0 := by omega
    exact ⟨46, 46, 46, rfl, rfl, rfl⟩
theorem parse_text {a b c d e f : Int} (h : validC a b c d e f = true) : parseP (cellT a b c d e f) = some (a, b, c, d, e, f) ∧ parseR (cellT a b c d e f) = some (a, b, c, d, e, f) := by
  have h' := h
  simp only [validC, Bool.and_eq_true, decide_eq_true_eq] at h'
  obtain ⟨⟨⟨hn, hb⟩, hv⟩, he⟩ := h'
  obtain ⟨n1, n2, n3⟩ := pNote_noted hn
  obtain ⟨i1, i2, i3, i4, i5⟩ := pInst_inst hb.1 hb.2
  obtain ⟨v1, v2, v3, v4, v5, v6⟩ := pVol_vol hv
  obtain ⟨e1, e2, e3, e4, e5, e6⟩ := pEff_eff he
  match hl : notedT a, n3 with
  | [x, y, z], _ =>
    rw [hl] at n1 n2
    have ht : cellT a b c d e f = [x, y, z, 32, i1, i2, 32, v1, v2, v3, 32, e1, e2, e3] := by
      simp [cellT, hl, i3, v4, e4]
    rw [ht]
    constructor
    · simp [parseP, n1, i4, v5, e5, pAll, h]
    · simp [parseR, n2, i5, v6, e6, gAll, h, ht]
end Go.Tx

namespace Go.Tx
open Go.Lib
abbrev Bs := List UInt8
theorem split_hit {s sep : Bs} {i : Nat} (hs : sep ≠ []) (h : index s sep = i) : split s sep = s.take i :: split (s.drop (i + sep.length)) sep := by
  unfold split
  rw [count_hit hs h, Nat.add_comm, splitK, if_neg (by rw [h]; simp)]
  simp [h]
theorem split_miss {s sep : Bs} (h : index s sep = -1) : split s sep = [s] := by
  unfold split; rw [count_miss h, splitK]
def Free (sep x : Bs) : Prop := index x sep = -1 ∧ ∀ r, index (x ++ sep ++ r) sep = x.length
theorem join_cons2 (x y : Bs) (r : List Bs) (sep : Bs) : join (x :: y :: r) sep = x ++ sep ++ join (y :: r) sep := by
  rw [join_cons, join_cons, joinTail, joinTail]
  simp
theorem split_join {sep : Bs} (hs : sep ≠ []) : ∀ {xs : List Bs}, xs ≠ [] → (∀ x ∈ xs, Free sep x) → split (join xs sep) sep = xs
  | [], h, _ => absurd rfl h
  | [x], _, h => by rw [join_one, split_miss (h x (by simp)).1]
  | x :: y :: r, _, h => by
    rw [join_cons2, split_hit hs ((h x (by simp)).2 _)]
    congr 1
    · rw [List.append_assoc, List.take_left]
    · rw [← List.length_append, List.drop_left]
      exact split_join hs (by simp) fun z hz => h z (by simp [hz])
theorem free_byte {c : UInt8} {x : Bs} (h : ∀ b ∈ x, b ≠ c) : Free [c] x := by
  have key : ∀ r, NoOcc (x ++ r) [c] x.length := by
    intro r j hj
    cases ho : occAt (x ++ r) [c] j with
    | false => rfl
    | true =>
      unfold occAt at ho
      obtain ⟨q, hq⟩ := List.isPrefixOf_iff_prefix.1 ho
      have : (x ++ r)[j]? = some c := by
        have h1 : ((x ++ r).drop j)[0]? = some c := by rw [← hq]; rfl
        simpa using h1
      rw [List.getElem?_append_left hj] at this
      exact absurd rfl (h c (List.mem_of_getElem? this))
  refine ⟨index_past (i := x.length) (by simp) (by simpa using key []) (by simp), fun r => ?_⟩
  rw [List.append_assoc]
  refine index_hit (key _) (by simp) ?_
  unfold occAt
  rw [List.drop_left]
  exact List.isPrefixOf_iff_prefix.2 ⟨r, rfl⟩
def bar : Bs := [32, 124, 32]
theorem free_bar {x : Bs} (h : ∀ b ∈ x, b ≠ 124) : Free bar x := by
  have key : ∀ r, (∀ b, r[0]? = some b → b ≠ 124) → NoOcc (x ++ r) bar x.length := by
    intro r hr j hj
    cases ho : occAt (x ++ r) bar j with
    | false => rfl
    | true =>
      have := occAt_second (c0 := 32) (c1 := 124) (t := [32]) rfl ho
      by_cases hl : j + 1 < x.length
      · rw [List.getElem?_append_left hl] at this
        exact absurd rfl (h 124 (List.mem_of_getElem? this))
      · rw [List.getElem?_append_right (by omega), show j + 1 - x.length = 0 by omega] at this
        exact absurd rfl (hr 124 this)
  refine ⟨index_past (i := x.length) (by simp [bar]) (by simpa using key [] (by simp)) (by simp [bar]), fun r => ?_⟩
  rw [List.append_assoc]
  refine index_hit (key _ (by simp [bar])) (by simp) ?_
  unfold occAt
  rw [List.drop_left]
  exact List.isPrefixOf_iff_prefix.2 ⟨r, rfl⟩
def isDig (b : UInt8) : Bool := decide (48 ≤ b.toNat) && decide (b.toNat ≤ 57)
def digs : Bs → Int → Option Int
  | [], n => some n
  | b :: r, n => if isDig b then digs r (n * 10 + ((b.toNat : Int) - 48)) else none
def num (w : Bs) : Option Int :=
  if 1 ≤ (trimPrefix w [45]).length ∧ (trimPrefix w [45]).length ≤ 9 then
    (match digs (trimPrefix w [45]) 0 with
     | some n => some (if trimPrefix w [45] = w then n else -n)
     | none => none) else none
theorem digs_append : ∀ (l : Bs) (m : Bs) (n : Int), digs (l ++ m) n = (match digs l n with | some k => digs m k | none => none)
  | [], m, n => rfl
  | b :: r, m, n => by
    simp only [List.cons_append, digs]
    split
    · exact digs_append r m _
    · rfl
theorem dig_byte (k : Nat) (h : k < 10) : (UInt8.ofNat (48 + k)).toNat = 48 + k := by
  rw [UInt8.toNat_ofNat', Nat.mod_eq_of_lt (by omega)]
theorem isDig_byte (k : Nat) (h : k < 10) : isDig (UInt8.ofNat (48 + k)) = true := by
  unfold isDig; rw [dig_byte k h]; simp; omega
theorem decDigits_digs (u : Nat) : digs (decDigits u) 0 = some (u : Int) ∧ (∀ b ∈ decDigits u, isDig b = true) ∧ decDigits u ≠ [] := by
  induction u using Nat.strongRecOn with
  | _ u ih =>
    by_cases h : u < 10
    · rw [decDigits, dif_pos h]
      refine ⟨?_, ?_, by simp⟩
      · simp only [digs, isDig_byte u h, if_true, dig_byte u h]
        exact congrArg some (by omega)
      · intro b hb
        simp only [List.mem_singleton] at hb
        subst hb
        exact isDig_byte u h
    · rw [decDigits, dif_neg h]
      obtain ⟨h1, h2, h3⟩ := ih (u / 10) (by omega)
      have hm : u % 10 < 10 := by omega
      refine ⟨?_, ?_, by simp⟩
      · rw [digs_append, h1]
        simp only [digs, isDig_byte _ hm, if_true, dig_byte _ hm]
        exact congrArg some (by omega)
      · intro b hb
        rcases List.mem_append.1 hb with hb | hb
        · exact h2 b hb
        · simp only [List.mem_singleton] at hb
          subst hb
          exact isDig_byte _ hm
theorem decDigits_len : ∀ (k u : Nat), u < 10 ^ (k + 1) → (decDigits u).length ≤ k + 1
  | 0, u, h => by rw [decDigits, dif_pos (by simpa using h)]; simp
  | k + 1, u, h => by
    by_cases hu : u < 10
    · rw [decDigits, dif_pos hu]; simp
    · rw [decDigits, dif_neg hu]
      rw [Nat.pow_succ] at h
      have := decDigits_len k (u / 10) (by omega)
      simp; omega
def Num (n : Int) : Prop := -999999999 ≤ n ∧ n ≤ 999999999
theorem num_itoa {n : Int} (h : Num n) : num (itoa n) = some n := by
  unfold itoa
  by_cases hn : n < 0
  · rw [if_pos hn]
    have hp : trimPrefix (45 :: decDigits n.natAbs) [45] = decDigits n.natAbs := by simp [trimPrefix, hasPrefix]
    obtain ⟨h1, h2, h3⟩ := decDigits_digs n.natAbs
    have hl := decDigits_len 8 n.natAbs (by obtain ⟨h, _⟩ := h; omega)
    unfold num
    rw [hp, h1, if_pos ⟨List.length_pos_iff.2 h3, hl⟩]
    have hne : decDigits n.natAbs ≠ 45 :: decDigits n.natAbs := fun e => by have := congrArg List.length e; simp at this
    simp only [if_neg hne]
    exact congrArg some (by omega)
  · rw [if_neg hn]
    obtain ⟨h1, h2, h3⟩ := decDigits_digs n.toNat
    have hl := decDigits_len 8 n.toNat (by obtain ⟨_, h⟩ := h; omega)
    have hp : trimPrefix (decDigits n.toNat) [45] = decDigits n.toNat := by
      unfold trimPrefix hasPrefix
      cases hd : decDigits n.toNat with
      | nil => rfl
      | cons b r =>
        have := h2 b (by rw [hd]; simp)
        rw [if_neg]
        intro hc
        simp only [List.isPrefixOf, Bool.and_true, beq_iff_eq] at hc
        subst hc
        simp [isDig] at this
    unfold num
    rw [hp, h1, if_pos ⟨List.length_pos_iff.2 h3, hl⟩]
    simp only [if_true]
    exact congrArg some (by omega)
theorem itoa_bytes (n : Int) : ∀ b ∈ itoa n, b = 45 ∨ isDig b = true := by
  intro b hb
  unfold itoa at hb
  split at hb
  · rcases List.mem_cons.1 hb with h | h
    · exact .inl h
    · exact .inr ((decDigits_digs _).2.1 b h)
  · exact .inr ((decDigits_digs _).2.1 b hb)
theorem itoa_ne (n : Int) {c : UInt8} (h1 : c ≠ 45) (h2 : isDig c = false) : ∀ b ∈ itoa n, b ≠ c := by
  rintro b hb rfl
  rcases itoa_bytes n b hb with h | h
  · exact h1 h
  · rw [h2] at h; cases h
theorem itoa_nonempty (n : Int) : itoa n ≠ [] := by
  unfold itoa
  split
  · simp
  · exact (decDigits_digs _).2.2
theorem itoa_one {n : Int} (hn : 0 ≤ n) : ∀ b ∈ itoa n, isDig b = true := by
  intro b hb
  unfold itoa at hb
  rw [if_neg (by omega)] at hb
  exact (decDigits_digs _).2.1 b hb
def nums : List Bs → Option (List Int)
  | [] => some []
  | w :: r => (match num w with | some n => (match nums r with | some l => some (n :: l) | none => none) | none => none)
theorem nums_itoa : ∀ {l : List Int}, (∀ n ∈ l, Num n) → nums (l.map itoa) = some l
  | [], _ => rfl
  | n :: r, h => by
    have ih := nums_itoa (l := r) fun k hk => h k (List.mem_cons_of_mem _ hk)
    simp [nums, num_itoa (h n (by simp)), ih]
def esc (s : Bs) : Bs := s.flatMap fun c => if c = 92 then [92, 92] else if c = 34 then [92, 34] else [c]
def quoted (s : Bs) : Bs := 34 :: (esc s ++ [34])
def isPr (c : UInt8) : Bool := decide (32 ≤ c.toNat) && decide (c.toNat ≤ 126)
def Named (s : Bs) : Prop := s.length ≤ 22 ∧ ∀ c ∈ s, isPr c = true
def nameL : Bs → Bs → Option (Bs × Bs)
  | [], _ => none
  | c :: r, out =>
    if c = 34 then (if out.length ≤ 22 then some (out, r) else none)
    else if c = 92 then
      (match r with
       | [] => none
       | d :: q => if d = 34 ∨ d = 92 then nameL q (out ++ [d]) else none)
    else if isPr c then nameL r (out ++ [c]) else none
def nameP : Bs → Option (Bs × Bs)
  | [] => none
  | c :: r => if c = 34 then nameL r [] else none
theorem nameL_esc : ∀ (s out r : Bs), (∀ c ∈ s, isPr c = true) → (out ++ s).length ≤ 22 → nameL (esc s ++ 34 :: r) out = some (out ++ s, r)
  | [], out, r, _, hl => by
    simp only [List.append_nil] at hl
    show nameL (34 :: r) out = _
    rw [nameL.eq_def]
    simp [hl]
  | c :: q, out, r, h, hl => by
    have ih := nameL_esc q (out ++ [c]) r (fun d hd => h d (by simp [hd])) (by simpa using hl)
    have e : esc (c :: q) = (if c = 92 then [92, 92] else if c = 34 then [92, 34] else [c]) ++ esc q := by simp [esc]
    rw [e]
    by_cases h1 : c = 92
    · subst h1
      simp only [if_true, List.cons_append, List.nil_append]
      rw [nameL.eq_def]
      simp only
      rw [if_neg (by decide)]
      simp [ih]
    · rw [if_neg h1]
      by_cases h2 : c = 34
      · subst h2
        simp only [if_true, List.cons_append, List.nil_append]
        rw [nameL.eq_def]
        simp only
        rw [if_neg (by decide)]
        simp [ih]
      · rw [if_neg h2]
        simp only [List.cons_append, List.nil_append]
        rw [nameL.eq_def]
        simp only
        rw [if_neg h2, if_neg h1, if_pos (h c (by simp)), ih]
        simp
theorem nameP_quoted {s : Bs} (h : Named s) (r : Bs) : nameP (quoted s ++ r) = some (s, r) := by
  show nameP (34 :: ((esc s ++ [34]) ++ r)) = _
  rw [nameP, if_pos rfl, List.append_assoc]
  have := nameL_esc s [] r h.2 (by simpa using h.1)
  simpa using this
theorem esc_bytes {s : Bs} (h : ∀ c ∈ s, isPr c = true) : ∀ c ∈ esc s, isPr c = true := by
  intro c hc
  unfold esc at hc
  obtain ⟨d, hd, hc⟩ := List.mem_flatMap.1 hc
  split at hc
  · simp only [List.mem_cons, List.not_mem_nil, or_false, or_self] at hc
    subst hc; decide
  · split at hc
    · simp only [List.mem_cons, List.not_mem_nil, or_false] at hc
      rcases hc with rfl | rfl <;> decide
    · simp only [List.mem_cons, List.not_mem_nil, or_false] at hc
      subst hc; exact h _ hd
end Go.Tx

namespace Go.Tx
open Go.Lib
abbrev C6 := Int × Int × Int × Int × Int × Int
def C6.text (c : C6) : Bs := cellT c.1 c.2.1 c.2.2.1 c.2.2.2.1 c.2.2.2.2.1 c.2.2.2.2.2
def C6.valid (c : C6) : Bool := validC c.1 c.2.1 c.2.2.1 c.2.2.2.1 c.2.2.2.2.1 c.2.2.2.2.2
structure PatV where
  rows : Int
  cells : List C6
structure SmpV where
  name : Bs
  data : List Int
  bits : Int
  rate : Int
  volume : Int
  pan : Int
  fine : Int
  lp : Int
  start : Int
  stop : Int
  sus : Int
  susStart : Int
  susEnd : Int
structure EnvV where
  on : Bool
  points : List (Int × Int)
  sus : Bool
  susStart : Int
  susEnd : Int
  lp : Bool
  lpStart : Int
  lpEnd : Int
structure InsV where
  name : Bs
  keys : List (Int × Int)
  volume : EnvV
  panning : EnvV
  pitch : EnvV
  fade : Int
  newNote : Int
  dup : Int
  dupDo : Int
  global : Int
  cutoff : Int
  reso : Int
structure SongV where
  name : Bs
  dialect : Int
  channels : Int
  orders : List Int
  restart : Int
  speed : Int
  tempo : Int
  global : Int
  linear : Bool
  pans : List Int
  patterns : List PatV
  samples : List SmpV
  insts : List InsV
def SongV.zero : SongV := ⟨[], 0, 0, [], 0, 0, 0, 0, false, [], [], [], []⟩
def wOrch1 : Bs := [111, 114, 99, 104, 101, 115, 116, 114, 105, 111, 110, 32, 49]
def wOrch : Bs := [111, 114, 99, 104, 101, 115, 116, 114, 105, 111, 110]
def wName : Bs := [110, 97, 109, 101]
def wDialect : Bs := [100, 105, 97, 108, 101, 99, 116]
def wChannels : Bs := [99, 104, 97, 110, 110, 101, 108, 115]
def wPlay : Bs := [112, 108, 97, 121]
def wPans : Bs := [112, 97, 110, 115]
def wOrders : Bs := [111, 114, 100, 101, 114, 115]
def wPattern : Bs := [112, 97, 116, 116, 101, 114, 110]
def wSample : Bs := [115, 97, 109, 112, 108, 101]
def wLoops : Bs := [108, 111, 111, 112, 115]
def wData : Bs := [100, 97, 116, 97]
def wInst : Bs := [105, 110, 115, 116]
def wKeys : Bs := [107, 101, 121, 115]
def wVolume : Bs := [118, 111, 108, 117, 109, 101]
def wPanning : Bs := [112, 97, 110, 110, 105, 110, 103]
def wPitch : Bs := [112, 105, 116, 99, 104]
def wEnd : Bs := [101, 110, 100]
def wFour : Bs := [102, 111, 117, 114]
def wScream : Bs := [115, 99, 114, 101, 97, 109]
def wFast : Bs := [102, 97, 115, 116]
def wImpulse : Bs := [105, 109, 112, 117, 108, 115, 101]
def wCompose : Bs := [99, 111, 109, 112, 111, 115, 101]
def wChip : Bs := [99, 104, 105, 112]
def jw (l : List Bs) : Bs := join l [32]
def bN (b : Bool) : Int := if b then 1 else 0
def dname (d : Int) : Bs := if d = 1 then wFour else if d = 2 then wScream else if d = 3 then wFast else if d = 4 then wImpulse else if d = 5 then wCompose else if d = 6 then wChip else []
def ordT (o : Int) : Bs := if o = 254 then [43] else if o = 255 then [45] else itoa o
def pairT (p : Int × Int) : Bs := itoa p.1 ++ (58 :: itoa p.2)
def headL (s : SongV) : List Bs :=
  [wOrch1, jw [wName, quoted s.name], jw [wDialect, dname s.dialect], jw (wChannels :: [s.channels].map itoa), jw (wPlay :: [s.speed, s.tempo, s.global, bN s.linear, s.restart].map itoa),
   jw (wPans :: s.pans.map itoa), jw (wOrders :: s.orders.map ordT)]
def rowL (l : List C6) : Bs := join (l.map C6.text) bar
def rowsL (ch : Nat) : Nat → List C6 → List Bs
  | 0, _ => []
  | k + 1, l => rowL (l.take ch) :: rowsL ch k (l.drop ch)
def patL (ch : Nat) (p : PatV) : List Bs := jw (wPattern :: [p.rows].map itoa) :: rowsL ch p.rows.toNat p.cells
def chunks : Nat → List Int → List Bs
  | 0, _ => []
  | f + 1, l => if l = [] then [] else jw ((l.take 32).map itoa) :: chunks f (l.drop 32)
def smpL (s : SmpV) : List Bs :=
  jw (wSample :: quoted s.name :: [s.bits, s.rate, s.volume, s.pan, s.fine].map itoa) :: jw (wLoops :: [s.lp, s.start, s.stop, s.sus, s.susStart, s.susEnd].map itoa) ::
  jw (wData :: [(s.data.length : Int)].map itoa) :: chunks s.data.length s.data
def envL (w : Bs) (e : EnvV) : Bs := jw ((w :: [bN e.on, bN e.sus, e.susStart, e.susEnd, bN e.lp, e.lpStart, e.lpEnd].map itoa) ++ e.points.map pairT)
def insL (i : InsV) : List Bs :=
  [jw (wInst :: quoted i.name :: [i.fade, i.newNote, i.dup, i.dupDo, i.global, i.cutoff, i.reso].map itoa), jw (wKeys :: i.keys.map pairT), envL wVolume i.volume, envL wPanning i.panning, envL wPitch i.pitch]
def fmtL (s : SongV) : List Bs :=
  headL s ++ (s.patterns.flatMap (patL s.channels.toNat) ++ (s.samples.flatMap smpL ++ (s.insts.flatMap insL ++ [wEnd])))
def flat (l : List Bs) : Bs := l.flatMap (· ++ [10])
def linesT (t : Bs) : List Bs := if t = [] then [] else split (trimSuffix t [10]) [10]
def ignored (l : Bs) : Bool := match l with | [] => true | b :: _ => b == 35
def moreL : List Bs → Nat → Option Bs × Nat
  | [], i => (none, i)
  | l :: r, i => if ignored l then moreL r (i + 1) else (some l, i + 1)
inductive Res (α : Type) where
  | ok (a : α) (i : Nat)
  | bad (i : Int)
  | short
abbrev Rd (α : Type) := List Bs → Nat → Res α
def pureR {α : Type} (a : α) : Rd α := fun _ i => .ok a i
def bnd {α β : Type} (p : Rd α) (f : α → Rd β) : Rd β := fun ls i =>
  match p ls i with
  | .ok a j => f a ls j
  | .bad j => .bad j
  | .short => .short
def failR {α : Type} : Rd α := fun _ i => .bad ((i : Int) - 1)
def liftR {α : Type} (o : Option α) : Rd α := match o with | some a => pureR a | none => failR
def mustR (b : Bool) : Rd Unit := if b then pureR () else failR
def lineR : Rd Bs := fun ls i =>
  match moreL (ls.drop i) i with
  | (some l, j) => .ok l j
  | (none, _) => .short
def wordsO (line word : Bs) (n : Int) : Option (List Bs) :=
  match split line [32] with
  | w :: r => if w = word ∧ (n < 0 ∨ (r.length : Int) = n) then some r else none
  | [] => none
def truthO (w : Bs) : Option Bool := match num w with | some n => if n = 0 then some false else if n = 1 then some true else none | none => none
def dialO (w : Bs) : Option Int :=
  if wFour = w then some 1 else if wScream = w then some 2 else if wFast = w then some 3 else if wImpulse = w then some 4 else if wCompose = w then some 5 else if wChip = w then some 6 else none
def orderO (w : Bs) : Option Int := if w = [43] then some 254 else if w = [45] then some 255 else match num w with | some n => if 0 ≤ n then some n else none | none => none
def pairO (w : Bs) : Option (Int × Int) :=
  match split w [58] with
  | [a, b] => (match num a, num b with | some x, some y => some (x, y) | _, _ => none)
  | _ => none
def allO {α : Type} (f : Bs → Option α) : List Bs → Option (List α)
  | [] => some []
  | w :: r => (match f w with | some a => (match allO f r with | some l => some (a :: l) | none => none) | none => none)
def namedO (line word : Bs) (n : Nat) : Option (Bs × List Int) :=
  if hasPrefix line (word ++ [32]) then
    (match nameP (line.drop (word.length + 1)) with
     | some (nm, rest) =>
       (match split rest [32] with
        | w :: r => if w = [] ∧ r.length = n then (match nums r with | some l => some (nm, l) | none => none) else none
        | [] => none)
     | none => none)
  else none
def wordR (word : Bs) (n : Int) : Rd (List Bs) := bnd lineR fun l => liftR (wordsO l word n)
def headR : Rd SongV :=
  bnd (wordR wOrch 1) fun a => bnd (liftR (num (a.getD 0 []))) fun v => bnd (mustR (v == 1)) fun _ =>
  bnd lineR fun l => bnd (mustR (hasPrefix l (wName ++ [32]))) fun _ => bnd (liftR (nameP (l.drop 5))) fun nr => bnd (mustR (nr.2 == [])) fun _ =>
  bnd (wordR wDialect 1) fun b => bnd (liftR (dialO (b.getD 0 []))) fun d =>
  bnd (wordR wChannels 1) fun c => bnd (liftR (num (c.getD 0 []))) fun ch =>
  bnd (wordR wPlay 5) fun play => bnd (liftR (nums play)) fun p => bnd (liftR (truthO (play.getD 3 []))) fun lin =>
  bnd (wordR wPans (-1)) fun ps => bnd (liftR (nums ps)) fun pans =>
  bnd (wordR wOrders (-1)) fun os => bnd (mustR (decide (os.length ≤ 64))) fun _ => bnd (liftR (allO orderO os)) fun orders =>
  pureR { name := nr.1, dialect := d, channels := ch, orders := orders, restart := p.getD 4 0, speed := p.getD 0 0, tempo := p.getD 1 0, global := p.getD 2 0, linear := lin, pans := pans, patterns := [], samples := [], insts := [] }
def rowsR (ch : Int) : Nat → List C6 → Rd (List C6)
  | 0, acc => pureR acc
  | k + 1, acc => bnd lineR fun l => bnd (mustR (decide (1 ≤ ch) && decide (ch ≤ 16) && decide (((split l bar).length : Int) = ch))) fun _ => bnd (liftR (allO parseP (split l bar))) fun cs => rowsR ch k (acc ++ cs)
def patR (ch : Int) (n : Nat) (line : Bs) : Rd PatV :=
  bnd (mustR (decide (n < 32))) fun _ => bnd (liftR (wordsO line wPattern 1)) fun a => bnd (liftR (num (a.getD 0 []))) fun rows => bnd (mustR (decide (0 ≤ rows) && decide (rows ≤ 64))) fun _ =>
  bnd (rowsR ch rows.toNat []) fun cells => pureR ⟨rows, cells⟩
def dataR (n : Int) : Nat → List Int → Rd (List Int)
  | 0, acc => if (acc.length : Int) < n then (fun _ _ => .short) else pureR acc
  | f + 1, acc => if (acc.length : Int) < n then
      (bnd lineR fun l => bnd (mustR (decide (((split l [32]).length : Int) ≤ 32) && decide (((split l [32]).length : Int) ≤ n - acc.length))) fun _ => bnd (liftR (nums (split l [32]))) fun v => dataR n f (acc ++ v))
    else pureR acc
def smpR (n : Nat) (line : Bs) : Rd SmpV :=
  bnd (mustR (decide (n < 31))) fun _ => bnd (liftR (namedO line wSample 5)) fun nl =>
  bnd (wordR wLoops 6) fun a => bnd (liftR (nums a)) fun q =>
  bnd (wordR wData 1) fun b => bnd (liftR (num (b.getD 0 []))) fun k => bnd (mustR (decide (0 ≤ k) && decide (k ≤ 4096))) fun _ =>
  bnd (dataR k k.toNat []) fun data =>
  pureR { name := nl.1, data := data, bits := nl.2.getD 0 0, rate := nl.2.getD 1 0, volume := nl.2.getD 2 0, pan := nl.2.getD 3 0, fine := nl.2.getD 4 0, lp := q.getD 0 0, start := q.getD 1 0, stop := q.getD 2 0, sus := q.getD 3 0, susStart := q.getD 4 0, susEnd := q.getD 5 0 }
def envR (w : Bs) : Rd EnvV :=
  bnd (wordR w (-1)) fun l => bnd (mustR (decide (7 ≤ l.length))) fun _ => bnd (liftR (nums (l.take 7))) fun n =>
  bnd (liftR (truthO (l.getD 0 []))) fun on => bnd (liftR (truthO (l.getD 1 []))) fun sus => bnd (liftR (truthO (l.getD 4 []))) fun lp =>
  bnd (liftR (allO pairO (l.drop 7))) fun ps =>
  pureR { on := on, points := ps, sus := sus, susStart := n.getD 2 0, susEnd := n.getD 3 0, lp := lp, lpStart := n.getD 5 0, lpEnd := n.getD 6 0 }
def insR (n : Nat) (line : Bs) : Rd InsV :=
  bnd (mustR (decide (n < 31))) fun _ => bnd (liftR (namedO line wInst 7)) fun nl =>
  bnd (wordR wKeys (-1)) fun ks => bnd (mustR (decide (ks.length = 0) || decide (ks.length = 120))) fun _ => bnd (liftR (allO pairO ks)) fun keys =>
  bnd (envR wVolume) fun v => bnd (envR wPanning) fun p => bnd (envR wPitch) fun h =>
  pureR { name := nl.1, keys := keys, volume := v, panning := p, pitch := h, fade := nl.2.getD 0 0, newNote := nl.2.getD 1 0, dup := nl.2.getD 2 0, dupDo := nl.2.getD 3 0, global := nl.2.getD 4 0, cutoff := nl.2.getD 5 0, reso := nl.2.getD 6 0 }
def kinds : List Bs := [wPattern, wSample, wInst]
def cutW (l : Bs) : Bs := l.takeWhile (· != 32)
def adv (w : Bs) (k : Nat) : Nat := k + ((kinds.drop k).takeWhile (· != w)).length
def bodyR : Nat → Nat → SongV → Rd SongV
  | 0, _, _ => fun _ _ => .short
  | f + 1, k, s => bnd lineR fun l =>
    if l = wEnd then pureR s
    else if adv (cutW l) k = 0 then bnd (patR s.channels s.patterns.length l) fun p => bodyR f 0 { s with patterns := s.patterns ++ [p] }
    else if adv (cutW l) k = 1 then bnd (smpR s.samples.length l) fun x => bodyR f 1 { s with samples := s.samples ++ [x] }
    else if adv (cutW l) k = 2 then bnd (insR s.insts.length l) fun x => bodyR f 2 { s with insts := s.insts ++ [x] }
    else failR
def songR : Rd SongV := bnd headR fun s => bodyR 96 0 s
def parseT (valid : SongV → Bool) (t : Bs) : SongV × Int × Int :=
  if 200000 < t.length then (.zero, 3, 0) else
  match songR (linesT t) 0 with
  | .ok s i =>
    (match moreL ((linesT t).drop i) i with
     | (some _, j) => (.zero, 2, (j : Int) - 1)
     | (none, _) => if valid s then (s, 0, 0) else (.zero, 1, 0))
  | .bad i => (.zero, 2, i)
  | .short => (.zero, 12, (linesT t).length)
end Go.Tx

namespace Go.Tx
open Go.Lib
def live (l : List Bs) : List Bs := l.filter fun x => !ignored x
theorem moreL_live : ∀ (l : List Bs) (i : Nat), (live l = [] ∧ (moreL l i).1 = none) ∨
    (∃ x k, 0 < k ∧ moreL l i = (some x, i + k) ∧ live l = x :: live (l.drop k))
  | [], i => .inl ⟨rfl, rfl⟩
  | y :: r, i => by
    cases h : ignored y with
    | true =>
      have e : live (y :: r) = live r := by simp [live, h]
      rcases moreL_live r (i + 1) with ⟨h1, h2⟩ | ⟨x, k, h0, h1, h2⟩
      · exact .inl ⟨by rw [e, h1], by simp [moreL, h, h2]⟩
      · refine .inr ⟨x, k + 1, by omega, ?_, ?_⟩
        · simp only [moreL, h, if_true, h1]
          congr 1; omega
        · rw [e, h2]; rfl
    | false =>
      refine .inr ⟨y, 1, by omega, ?_, ?_⟩
      · simp only [moreL, h]; rfl
      · simp [live, h]
def Feeds {α : Type} (p : Rd α) (L : List Bs) (a : α) : Prop :=
  ∀ ls i, (∀ rest, live (ls.drop i) = L ++ rest → ∃ j, p ls i = .ok a j ∧ live (ls.drop j) = rest) ∧
          (∀ L', L' <+: L → L' ≠ L → live (ls.drop i) = L' → p ls i = .short)
theorem feeds_bnd {α β : Type} {p : Rd α} {f : α → Rd β} {L M : List Bs} {a : α} {b : β} (h : Feeds p L a) (k : Feeds (f a) M b) : Feeds (bnd p f) (L ++ M) b := by
  intro ls i
  refine ⟨fun rest hr => ?_, fun L' hp hne hl => ?_⟩
  · rw [List.append_assoc] at hr
    obtain ⟨j, h1, h2⟩ := (h ls i).1 _ hr
    obtain ⟨j', h3, h4⟩ := (k ls j).1 _ h2
    exact ⟨j', by simp only [bnd, h1, h3], h4⟩
  · have hlong : ∀ M', L' = L ++ M' → (bnd p f) ls i = .short := by
      rintro M' rfl
      obtain ⟨j, h1, h2⟩ := (h ls i).1 _ hl
      have h3 := (k ls j).2 M' ((List.prefix_append_right_inj L).1 hp) (fun e => hne (by rw [e])) h2
      simp only [bnd, h1, h3]
    rcases List.prefix_or_prefix_of_prefix hp (List.prefix_append L M) with hc | hc
    · by_cases he : L' = L
      · exact hlong [] (by simpa using he)
      · have h3 := (h ls i).2 L' hc he hl
        simp only [bnd, h3]
    · obtain ⟨M', rfl⟩ := hc
      exact hlong M' rfl
theorem feeds_pure {α : Type} (a : α) : Feeds (pureR a) [] a := by
  intro ls i
  refine ⟨fun rest hr => ⟨i, rfl, hr⟩, fun L' hp hne _ => ?_⟩
  exact absurd (List.prefix_nil.1 hp) hne
theorem feeds_line {l : Bs} (h : ignored l = false) : Feeds lineR [l] l := by
  intro ls i
  rcases moreL_live (ls.drop i) i with ⟨h1, h2⟩ | ⟨x, k, h0, h1, h2⟩
  · refine ⟨fun rest hr => ?_, fun L' hp hne hl => ?_⟩
    · rw [h1] at hr; cases hr
    · unfold lineR
      split
      · rename_i heq; rw [heq] at h2; cases h2
      · rfl
  · refine ⟨fun rest hr => ?_, fun L' hp hne hl => ?_⟩
    · rw [h2] at hr
      simp only [List.cons_append, List.nil_append, List.cons.injEq] at hr
      obtain ⟨rfl, hr⟩ := hr
      refine ⟨i + k, ?_, ?_⟩
      · unfold lineR; rw [h1]
      · rw [← hr, List.drop_drop]
    · rw [h2] at hl
      subst hl
      obtain ⟨t, ht⟩ := hp
      simp only [List.cons_append, List.cons.injEq, List.append_eq_nil_iff] at ht
      exact absurd (by rw [ht.1, ht.2.1]) hne
theorem feeds_lift {α : Type} {o : Option α} {v : α} (h : o = some v) : Feeds (liftR o) [] v := by
  subst h; exact feeds_pure v
theorem feeds_must {b : Bool} (h : b = true) : Feeds (mustR b) [] () := by
  subst h; exact feeds_pure ()
section
variable {α β : Type} {L : List Bs} {b : β}
theorem feeds_lift' {o : Option α} {v : α} {f : α → Rd β} (h : o = some v) (k : Feeds (f v) L b) : Feeds (bnd (liftR o) f) L b := by
  simpa using feeds_bnd (feeds_lift h) k
theorem feeds_must' {c : Bool} {f : Unit → Rd β} (h : c = true) (k : Feeds (f ()) L b) : Feeds (bnd (mustR c) f) L b := by
  simpa using feeds_bnd (feeds_must h) k
theorem feeds_line' {l : Bs} {f : Bs → Rd β} (h : ignored l = false) (k : Feeds (f l) L b) : Feeds (bnd lineR f) (l :: L) b :=
  feeds_bnd (feeds_line h) k
theorem feeds_word {l w : Bs} {n : Int} {ws : List Bs} (h : ignored l = false) (hw : wordsO l w n = some ws) : Feeds (wordR w n) [l] ws :=
  feeds_line' h (feeds_lift hw)
theorem feeds_word' {l w : Bs} {n : Int} {ws : List Bs} {f : List Bs → Rd β} (h : ignored l = false) (hw : wordsO l w n = some ws) (k : Feeds (f ws) L b) : Feeds (bnd (wordR w n) f) (l :: L) b :=
  feeds_bnd (feeds_word h hw) k
end
abbrev NoSp (x : Bs) : Prop := ∀ b ∈ x, b ≠ 32
theorem split_jw {l : List Bs} (h : l ≠ []) (hs : ∀ x ∈ l, NoSp x) : split (jw l) [32] = l := split_join (by simp) h fun x hx => free_byte (hs x hx)
theorem wordsO_jw {w : Bs} {ws : List Bs} {n : Int} (hw : NoSp w) (hs : ∀ x ∈ ws, NoSp x) (hn : n < 0 ∨ (ws.length : Int) = n) : wordsO (jw (w :: ws)) w n = some ws := by
  unfold wordsO
  rw [split_jw (by simp) (by
    intro x hx
    rcases List.mem_cons.1 hx with rfl | hx
    · exact hw
    · exact hs x hx)]
  simp [hn]
theorem nosp_itoa (n : Int) : NoSp (itoa n) := itoa_ne n (by decide) (by decide)
theorem nosp_nums (l : List Int) : ∀ x ∈ l.map itoa, NoSp x := by
  intro x hx
  obtain ⟨n, _, rfl⟩ := List.mem_map.1 hx
  exact nosp_itoa n
theorem nosp_pair (p : Int × Int) : NoSp (pairT p) := by
  intro b hb
  unfold pairT at hb
  rcases List.mem_append.1 hb with h | h
  · exact nosp_itoa _ b h
  · rcases List.mem_cons.1 h with rfl | h
    · decide
    · exact nosp_itoa _ b h
theorem nosp_pairs (l : List (Int × Int)) : ∀ x ∈ l.map pairT, NoSp x := by
  intro x hx
  obtain ⟨n, _, rfl⟩ := List.mem_map.1 hx
  exact nosp_pair n
theorem nosp_ord (o : Int) : NoSp (ordT o) := by
  unfold ordT
  split
  · decide
  · split
    · decide
    · exact nosp_itoa o
theorem jw_cons (w : Bs) (ws : List Bs) : jw (w :: ws) = w ++ (if ws = [] then [] else 32 :: jw ws) := by
  cases ws with
  | nil => simp [jw, join_one]
  | cons x r => simp [jw, join_cons2]
theorem ignored_jw {c : UInt8} {q : Bs} {ws : List Bs} (h : c ≠ 35) : ignored (jw ((c :: q) :: ws)) = false := by
  rw [jw_cons]
  simp [ignored, h]
theorem pairO_pair {p : Int × Int} (h : Num p.1 ∧ Num p.2) : pairO (pairT p) = some p := by
  have e : pairT p = join [itoa p.1, itoa p.2] [58] := by simp [pairT, join_cons2, join_one]
  have hs : split (pairT p) [58] = [itoa p.1, itoa p.2] := by
    rw [e]
    refine split_join (by simp) (by simp) ?_
    intro x hx
    simp only [List.mem_cons, List.not_mem_nil, or_false] at hx
    rcases hx with rfl | rfl
    · exact free_byte (itoa_ne _ (by decide) (by decide))
    · exact free_byte (itoa_ne _ (by decide) (by decide))
  unfold pairO
  rw [hs]
  simp only [num_itoa h.1, num_itoa h.2]
theorem allO_map {α : Type} {f : Bs → Option α} {g : α → Bs} : ∀ {l : List α}, (∀ a ∈ l, f (g a) = some a) → allO f (l.map g) = some l
  | [], _ => rfl
  | a :: r, h => by
    have ih := allO_map (l := r) fun b hb => h b (List.mem_cons_of_mem _ hb)
    simp only [List.map_cons, allO, h a (by simp), ih]
def GoodO (o : Int) : Prop := 0 ≤ o ∧ Num o
theorem orderO_ord {o : Int} (h : GoodO o) : orderO (ordT o) = some o := by
  unfold ordT
  by_cases h1 : o = 254
  · rw [if_pos h1]; subst h1; rfl
  · rw [if_neg h1]
    by_cases h2 : o = 255
    · rw [if_pos h2]; subst h2; rfl
    · rw [if_neg h2]
      have hd := itoa_one h.1
      have n1 : itoa o ≠ [43] := fun e => by have := hd 43 (by rw [e]; simp); exact absurd this (by decide)
      have n2 : itoa o ≠ [45] := fun e => by have := hd 45 (by rw [e]; simp); exact absurd this (by decide)
      unfold orderO
      rw [if_neg n1, if_neg n2, num_itoa h.2]
      simp only
      rw [if_pos h.1]
theorem num_bool (b : Bool) : Num (bN b) := by cases b <;> exact ⟨by decide, by decide⟩
theorem truthO_bool (b : Bool) : truthO (itoa (bN b)) = some b := by
  unfold truthO
  rw [num_itoa (num_bool b)]
  cases b <;> simp [bN]
theorem dialO_dname {d : Int} (h : 1 ≤ d ∧ d ≤ 6) : dialO (dname d) = some d ∧ NoSp (dname d) ∧ ∀ b ∈ dname d, b ≠ 10 := by
  have : d = 1 ∨ d = 2 ∨ d = 3 ∨ d = 4 ∨ d = 5 ∨ d = 6 := by omega
  rcases this with rfl | rfl | rfl | rfl | rfl | rfl <;> exact ⟨by decide, by decide, by decide⟩
theorem namedO_jw {w nm : Bs} {l : List Int} {n : Nat} (hnm : Named nm) (hl : ∀ k ∈ l, Num k) (hn : l.length = n) (h0 : 0 < n) : namedO (jw (w :: quoted nm :: l.map itoa)) w n = some (nm, l) := by
  have hne : l.map itoa ≠ [] := by intro e; have := congrArg List.length e; simp at this; subst this; simp at hn; omega
  have e : jw (w :: quoted nm :: l.map itoa) = (w ++ [32]) ++ (quoted nm ++ (32 :: jw (l.map itoa))) := by
    rw [jw_cons, if_neg (by simp), jw_cons, if_neg hne]; simp
  unfold namedO
  rw [e]
  have hp : hasPrefix (w ++ [32] ++ (quoted nm ++ 32 :: jw (l.map itoa))) (w ++ [32]) = true := List.isPrefixOf_iff_prefix.2 ⟨_, rfl⟩
  have hd : (w ++ [32] ++ (quoted nm ++ 32 :: jw (l.map itoa))).drop (w.length + 1) = quoted nm ++ 32 :: jw (l.map itoa) := by
    rw [show w.length + 1 = (w ++ [32]).length by simp, List.drop_left]
  rw [if_pos hp, hd, nameP_quoted hnm]
  have hs : split (32 :: jw (l.map itoa)) [32] = [] :: l.map itoa := by
    have : (32 :: jw (l.map itoa)) = jw ([] :: l.map itoa) := by rw [jw_cons, if_neg hne]; simp
    rw [this]
    refine split_jw (by simp) ?_
    intro x hx
    rcases List.mem_cons.1 hx with rfl | hx
    · simp [NoSp]
    · exact nosp_nums l x hx
  simp only [hs, List.length_map, hn, and_self, if_true, nums_itoa hl]
def GoodC (x : Bs) : Prop := (∀ b ∈ x, b ≠ 124 ∧ b ≠ 10) ∧ ∃ c r, x = c :: r ∧ c ≠ 35
theorem tone_good : ∀ n : Fin 120, ((toneName n.val).all fun b => b != 124 && b != 10) = true ∧ (match toneName n.val with | [] => false | c :: _ => c != 35) = true := by decide
theorem good_of_all {x : Bs} (h : (x.all fun b => b != 124 && b != 10) = true ∧ (match x with | [] => false | c :: _ => c != 35) = true) : GoodC x := by
  refine ⟨fun b hb => ?_, ?_⟩
  · have := List.all_eq_true.1 h.1 b hb
    simpa using this
  · match x, h.2 with
    | c :: r, h2 => exact ⟨c, r, rfl, by simpa using h2⟩
theorem noted_good {a : Int} (h : vnote a = true) : GoodC (notedT a) := by
  rcases note_cases h with rfl | rfl | rfl | rfl | ⟨n, hn, rfl⟩
  · exact good_of_all (by decide)
  · exact good_of_all (by decide)
  · exact good_of_all (by decide)
  · exact good_of_all (by decide)
  · rw [noted_key n hn]
    exact good_of_all (tone_good ⟨n, hn⟩)
theorem dig_good' : ∀ k : Fin 36, dig (k.val : Int) ≠ 124 ∧ dig (k.val : Int) ≠ 10 := by decide
theorem dig_good (k : Int) (h0 : 0 ≤ k) (h1 : k < 36) : dig k ≠ 124 ∧ dig k ≠ 10 := by
  have := dig_good' ⟨k.toNat, by omega⟩
  simpa [Int.toNat_of_nonneg h0] using this
theorem vol_byte : ∀ k : Fin 13, (UInt8.ofNat (96 + k.val) ≠ 124 ∧ UInt8.ofNat (96 + k.val) ≠ 10) := by decide
theorem cell_good {c : C6} (h : c.valid = true) : GoodC c.text := by
  obtain ⟨a, b, c, d, e, f⟩ := c
  have h' := h
  simp only [C6.valid, validC, vpart, Bool.and_eq_true, decide_eq_true_eq] at h'
  obtain ⟨⟨⟨hn, hb⟩, ⟨hc, hd⟩, hcd⟩, ⟨he, hf⟩, hef⟩ := h'
  obtain ⟨n1, x, r, n2, n3⟩ := noted_good hn
  have k1 : ∀ y ∈ instT b, y ≠ 124 ∧ y ≠ 10 := by
    unfold instT
    split
    · intro y hy
      simp only [List.mem_cons, List.not_mem_nil, or_false] at hy
      rcases hy with rfl | rfl
      · exact dig_good _ (by omega) (by omega)
      · exact dig_good _ (by omega) (by omega)
    · decide
  have k2 : ∀ y ∈ volT c d, y ≠ 124 ∧ y ≠ 10 := by
    unfold volT
    split
    · intro y hy
      simp only [List.mem_cons, List.not_mem_nil, or_false] at hy
      rcases hy with rfl | rfl | rfl
      · have := vol_byte ⟨c.toNat, by omega⟩
        simpa using this
      · exact dig_good _ (by omega) (by omega)
      · exact dig_good _ (by omega) (by omega)
    · decide
  have k3 : ∀ y ∈ effT e f, y ≠ 124 ∧ y ≠ 10 := by
    unfold effT
    split
    · intro y hy
      simp only [List.mem_cons, List.not_mem_nil, or_false] at hy
      rcases hy with rfl | rfl | rfl
      · exact dig_good _ (by omega) (by omega)
      · exact dig_good _ (by omega) (by omega)
      · exact dig_good _ (by omega) (by omega)
    · decide
  refine ⟨?_, x, r ++ 32 :: (instT b ++ 32 :: (volT c d ++ 32 :: effT e f)), ?_, n3⟩
  · intro y hy
    have hy' : y ∈ notedT a ++ 32 :: (instT b ++ 32 :: (volT c d ++ 32 :: effT e f)) := hy
    simp only [List.mem_append, List.mem_cons] at hy'
    rcases hy' with h | rfl | h | rfl | h | rfl | h
    · exact n1 y h
    · decide
    · exact k1 y h
    · decide
    · exact k2 y h
    · decide
    · exact k3 y h
  · show notedT a ++ _ = _
    rw [n2]; rfl
theorem parse_cell {c : C6} (h : c.valid = true) : parseP c.text = some c := by
  obtain ⟨a, b, c, d, e, f⟩ := c
  exact (parse_text h).1
def GoodP (ch : Int) (p : PatV) : Prop := 0 ≤ p.rows ∧ p.rows ≤ 64 ∧ p.cells.length = p.rows.toNat * ch.toNat ∧ ∀ c ∈ p.cells, c.valid = true
def GoodE (e : EnvV) : Prop := (∀ n ∈ [e.susStart, e.susEnd, e.lpStart, e.lpEnd], Num n) ∧ ∀ p ∈ e.points, Num p.1 ∧ Num p.2
def GoodS (s : SmpV) : Prop := Named s.name ∧ (∀ n ∈ [s.bits, s.rate, s.volume, s.pan, s.fine], Num n) ∧ (∀ n ∈ [s.lp, s.start, s.stop, s.sus, s.susStart, s.susEnd], Num n) ∧ s.data.length ≤ 4096 ∧ ∀ n ∈ s.data, Num n
def GoodI (i : InsV) : Prop := Named i.name ∧ (∀ n ∈ [i.fade, i.newNote, i.dup, i.dupDo, i.global, i.cutoff, i.reso], Num n) ∧ (i.keys.length = 0 ∨ i.keys.length = 120) ∧ (∀ p ∈ i.keys, Num p.1 ∧ Num p.2) ∧ GoodE i.volume ∧ GoodE i.panning ∧ GoodE i.pitch
structure Good (s : SongV) : Prop where
  name : Named s.name
  dialect : 1 ≤ s.dialect ∧ s.dialect ≤ 6
  channels : 1 ≤ s.channels ∧ s.channels ≤ 16
  nums : ∀ n ∈ [s.speed, s.tempo, s.global, s.restart], Num n
  pans : ∀ n ∈ s.pans, Num n
  orders : s.orders.length ≤ 64 ∧ ∀ o ∈ s.orders, GoodO o
  patterns : s.patterns.length ≤ 32 ∧ ∀ p ∈ s.patterns, GoodP s.channels p
  samples : s.samples.length ≤ 31 ∧ ∀ x ∈ s.samples, GoodS x
  insts : s.insts.length ≤ 31 ∧ ∀ x ∈ s.insts, GoodI x
theorem num_small {n : Int} (h0 : 0 ≤ n) (h1 : n ≤ 100000) : Num n := ⟨by omega, by omega⟩
theorem head_feeds {s : SongV} (g : Good s) : Feeds headR (headL s) { s with patterns := [], samples := [], insts := [] } := by
  obtain ⟨name, dialect, channels, orders, restart, speed, tempo, global, linear, pans, patterns, samples, insts⟩ := s
  obtain ⟨g1, g2, g3, g4, g5, g6, g7, g8, g9⟩ := g
  simp only at g1 g2 g3 g4 g5 g6
  have q1 : num [49] = some 1 := by decide
  have hn : ∀ n ∈ [speed, tempo, global, bN linear, restart], Num n := by
    intro n hn
    simp only [List.mem_cons, List.not_mem_nil, or_false] at hn
    rcases hn with rfl | rfl | rfl | rfl | rfl
    · exact g4 _ (by simp)
    · exact g4 _ (by simp)
    · exact g4 _ (by simp)
    · exact num_bool _
    · exact g4 _ (by simp)
  refine feeds_word' (ws := [[49]]) (by decide) (by decide +kernel) ?_
  refine feeds_lift' (v := 1) q1 ?_
  refine feeds_must' (by decide) ?_
  have hl : jw [wName, quoted name] = (wName ++ [32]) ++ quoted name := by rw [jw_cons, if_neg (by simp), jw, join_one]; simp
  refine feeds_line' (by exact ignored_jw (c := 110) (q := [97, 109, 101]) (by decide)) ?_
  refine feeds_must' (by rw [hl]; exact List.isPrefixOf_iff_prefix.2 ⟨_, rfl⟩) ?_
  refine feeds_lift' (v := (name, [])) ?_ ?_
  · rw [hl, show (5 : Nat) = (wName ++ [32]).length from rfl, List.drop_left]
    simpa using nameP_quoted g1 []
  refine feeds_must' rfl ?_
  refine feeds_word' (ws := [dname dialect]) (by exact ignored_jw (c := 100) (q := [105, 97, 108, 101, 99, 116]) (by decide)) (wordsO_jw (by decide) (by intro x hx; simp only [List.mem_singleton] at hx; subst hx; exact (dialO_dname g2).2.1) (.inr rfl)) ?_
  refine feeds_lift' (v := dialect) (dialO_dname g2).1 ?_
  refine feeds_word' (ws := [channels].map itoa) (by exact ignored_jw (c := 99) (q := [104, 97, 110, 110, 101, 108, 115]) (by decide)) (wordsO_jw (by decide) (nosp_nums _) (.inr rfl)) ?_
  refine feeds_lift' (v := channels) (num_itoa (num_small (by omega) (by omega))) ?_
  refine feeds_word' (ws := [speed, tempo, global, bN linear, restart].map itoa) (by exact ignored_jw (c := 112) (q := [108, 97, 121]) (by decide)) (wordsO_jw (by decide) (nosp_nums _) (.inr rfl)) ?_
  refine feeds_lift' (v := [speed, tempo, global, bN linear, restart]) (nums_itoa hn) ?_
  refine feeds_lift' (v := linear) (truthO_bool linear) ?_
  refine feeds_word' (ws := pans.map itoa) (by exact ignored_jw (c := 112) (q := [97, 110, 115]) (by decide)) (wordsO_jw (by decide) (nosp_nums _) (.inl (by decide))) ?_
  refine feeds_lift' (v := pans) (nums_itoa g5) ?_
  refine feeds_word' (ws := orders.map ordT) (by exact ignored_jw (c := 111) (q := [114, 100, 101, 114, 115]) (by decide)) (wordsO_jw (by decide) (by
    intro x hx
    obtain ⟨n, _, rfl⟩ := List.mem_map.1 hx
    exact nosp_ord n) (.inl (by decide))) ?_
  refine feeds_must' (by simpa using g6.1) ?_
  refine feeds_lift' (v := orders) (allO_map fun o ho => orderO_ord (g6.2 o ho)) ?_
  exact feeds_pure _
theorem ignored_row {l : List C6} (h : l ≠ []) (hv : ∀ c ∈ l, c.valid = true) : ignored (rowL l) = false := by
  match l, h with
  | c :: r, _ =>
    obtain ⟨_, x, q, e, hx⟩ := cell_good (hv c (by simp))
    unfold rowL
    rw [List.map_cons, join_cons, e]
    simp [ignored, hx]
theorem split_row {l : List C6} (h : l ≠ []) (hv : ∀ c ∈ l, c.valid = true) : split (rowL l) bar = l.map C6.text := by
  refine split_join (by simp [bar]) (by simpa using h) ?_
  intro x hx
  obtain ⟨c, hc, rfl⟩ := List.mem_map.1 hx
  exact free_bar fun b hb => ((cell_good (hv c hc)).1 b hb).1
theorem rows_feeds {ch : Int} (hc : 1 ≤ ch ∧ ch ≤ 16) : ∀ (k : Nat) (l acc : List C6), l.length = k * ch.toNat → (∀ c ∈ l, c.valid = true) → Feeds (rowsR ch k acc) (rowsL ch.toNat k l) (acc ++ l)
  | 0, l, acc, hl, _ => by
    have : l = [] := List.eq_nil_of_length_eq_zero (by omega)
    subst this
    rw [List.append_nil]
    exact feeds_pure _
  | k + 1, l, acc, hl, hv => by
    rw [Nat.succ_mul] at hl
    have ht : (l.take ch.toNat).length = ch.toNat := by rw [List.length_take]; omega
    have hne : l.take ch.toNat ≠ [] := by intro e; rw [e] at ht; simp at ht; omega
    have hvt : ∀ c ∈ l.take ch.toNat, c.valid = true := fun c h => hv c (List.mem_of_mem_take h)
    have hs := split_row hne hvt
    refine feeds_line' (ignored_row hne hvt) ?_
    refine feeds_must' ?_ ?_
    · rw [hs, List.length_map, ht]
      simp only [Bool.and_eq_true, decide_eq_true_eq]
      omega
    refine feeds_lift' (v := l.take ch.toNat) ?_ ?_
    · rw [hs]; exact allO_map fun c h => parse_cell (hvt c h)
    have := rows_feeds hc k (l.drop ch.toNat) (acc ++ l.take ch.toNat) (by rw [List.length_drop]; omega) fun c h => hv c (List.mem_of_mem_drop h)
    rwa [List.append_assoc, List.take_append_drop] at this
theorem pat_feeds {ch : Int} (hc : 1 ≤ ch ∧ ch ≤ 16) {p : PatV} (g : GoodP ch p) {n : Nat} (hn : n < 32) : Feeds (patR ch n (jw (wPattern :: [p.rows].map itoa))) (rowsL ch.toNat p.rows.toNat p.cells) p := by
  obtain ⟨rows, cells⟩ := p
  obtain ⟨g1, g2, g3, g4⟩ := g
  simp only at g1 g2 g3 g4
  refine feeds_must' (by simpa using hn) ?_
  refine feeds_lift' (v := [rows].map itoa) (wordsO_jw (by decide) (nosp_nums _) (.inr rfl)) ?_
  refine feeds_lift' (v := rows) (num_itoa (num_small (by omega) (by omega))) ?_
  refine feeds_must' (by simp only [Bool.and_eq_true, decide_eq_true_eq]; omega) ?_
  have := feeds_bnd (f := fun cells => pureR (⟨rows, cells⟩ : PatV)) (rows_feeds hc rows.toNat cells [] g3 g4) (feeds_pure _)
  simpa using this
theorem ignored_nums {n : Int} {l : List Int} : ignored (jw ((n :: l).map itoa)) = false := by
  rw [List.map_cons, jw_cons]
  cases hi : itoa n with
  | nil => exact absurd hi (itoa_nonempty n)
  | cons c r =>
    have := itoa_ne n (c := 35) (by decide) (by decide) c (by rw [hi]; simp)
    simp [ignored, this]
theorem data_feeds {n : Int} : ∀ (f f' : Nat) (l acc : List Int), n = acc.length + l.length → l.length ≤ f → l.length ≤ f' → (∀ k ∈ l, Num k) → Feeds (dataR n f acc) (chunks f' l) (acc ++ l)
  | 0, f', l, acc, hn, hf, _, _ => by
    have : l = [] := List.eq_nil_of_length_eq_zero (by omega)
    subst this
    have e : chunks f' [] = [] := by cases f' <;> simp [chunks]
    rw [e, List.append_nil, dataR, if_neg (by simp at hn; omega)]
    exact feeds_pure _
  | f + 1, f', l, acc, hn, hf, hf', hk => by
    cases l with
    | nil =>
      have e : chunks f' [] = [] := by cases f' <;> simp [chunks]
      rw [e, List.append_nil, dataR, if_neg (by simp at hn; omega)]
      exact feeds_pure _
    | cons x r =>
      obtain ⟨g, rfl⟩ : ∃ g, f' = g + 1 := ⟨f' - 1, by simp at hf'; omega⟩
      simp only [List.length_cons] at hn hf hf'
      rw [chunks, if_neg (by simp), dataR, if_pos (by omega)]
      have ht : (x :: r).take 32 = x :: r.take 31 := rfl
      have hd : (x :: r).drop 32 = r.drop 31 := rfl
      have hs : split (jw (((x :: r).take 32).map itoa)) [32] = ((x :: r).take 32).map itoa := split_jw (by rw [ht]; simp) (nosp_nums _)
      refine feeds_line' (by rw [ht]; exact ignored_nums) ?_
      refine feeds_must' ?_ ?_
      · rw [hs, ht]
        simp only [List.length_map, List.length_cons, List.length_take, Bool.and_eq_true, decide_eq_true_eq]
        omega
      refine feeds_lift' (v := (x :: r).take 32) (by rw [hs]; exact nums_itoa fun k h => hk k (List.mem_of_mem_take h)) ?_
      have := data_feeds (n := n) f g ((x :: r).drop 32) (acc ++ (x :: r).take 32) (by rw [hd, ht]; simp; omega) (by rw [hd]; simp; omega) (by rw [hd]; simp; omega) fun k h => hk k (List.mem_of_mem_drop h)
      rwa [List.append_assoc, List.take_append_drop] at this
theorem smp_feeds {s : SmpV} (g : GoodS s) {n : Nat} (hn : n < 31) :
    Feeds (smpR n (jw (wSample :: quoted s.name :: [s.bits, s.rate, s.volume, s.pan, s.fine].map itoa))) (smpL s).tail s := by
  obtain ⟨name, data, bits, rate, volume, pan, fine, lp, start, stop, sus, susStart, susEnd⟩ := s
  obtain ⟨g1, g2, g3, g4, g5⟩ := g
  simp only at g1 g2 g3 g4 g5
  refine feeds_must' (by simpa using hn) ?_
  refine feeds_lift' (v := (name, [bits, rate, volume, pan, fine])) (namedO_jw g1 g2 rfl (by decide)) ?_
  refine feeds_word' (ws := [lp, start, stop, sus, susStart, susEnd].map itoa) (by exact ignored_jw (c := 108) (q := [111, 111, 112, 115]) (by decide)) (wordsO_jw (by decide) (nosp_nums _) (.inr rfl)) ?_
  refine feeds_lift' (v := [lp, start, stop, sus, susStart, susEnd]) (nums_itoa g3) ?_
  refine feeds_word' (ws := [(data.length : Int)].map itoa) (by exact ignored_jw (c := 100) (q := [97, 116, 97]) (by decide)) (wordsO_jw (by decide) (nosp_nums _) (.inr rfl)) ?_
  refine feeds_lift' (v := (data.length : Int)) (num_itoa (n := (data.length : Int)) (num_small (by omega) (by omega))) ?_
  refine feeds_must' (by simp only [Bool.and_eq_true, decide_eq_true_eq]; omega) ?_
  have hd := data_feeds (n := data.length) ((data.length : Int).toNat) data.length data [] (by simp) (by simp) (Nat.le_refl _) g5
  have := feeds_bnd (f := fun data => pureR (SmpV.mk name data bits rate volume pan fine lp start stop sus susStart susEnd)) hd (feeds_pure _)
  simpa using this
theorem env_feeds {e : EnvV} (g : GoodE e) {c : UInt8} {q : Bs} (hc : c ≠ 35) (hw : NoSp (c :: q)) : Feeds (envR (c :: q)) [envL (c :: q) e] e := by
  obtain ⟨on, points, sus, susStart, susEnd, lp, lpStart, lpEnd⟩ := e
  obtain ⟨g1, g2⟩ := g
  simp only at g1 g2
  have hn : ∀ n ∈ [bN on, bN sus, susStart, susEnd, bN lp, lpStart, lpEnd], Num n := by
    intro n hn
    simp only [List.mem_cons, List.not_mem_nil, or_false] at hn
    rcases hn with rfl | rfl | rfl | rfl | rfl | rfl | rfl
    · exact num_bool _
    · exact num_bool _
    · exact g1 _ (by simp)
    · exact g1 _ (by simp)
    · exact num_bool _
    · exact g1 _ (by simp)
    · exact g1 _ (by simp)
  refine feeds_word' (ws := [bN on, bN sus, susStart, susEnd, bN lp, lpStart, lpEnd].map itoa ++ points.map pairT) (by exact ignored_jw hc) (wordsO_jw hw (by
    intro x hx
    rcases List.mem_append.1 hx with h | h
    · exact nosp_nums _ x h
    · exact nosp_pairs _ x h) (.inl (by decide))) ?_
  refine feeds_must' (by simp) ?_
  refine feeds_lift' (v := [bN on, bN sus, susStart, susEnd, bN lp, lpStart, lpEnd]) (nums_itoa hn) ?_
  refine feeds_lift' (v := on) (truthO_bool on) ?_
  refine feeds_lift' (v := sus) (truthO_bool sus) ?_
  refine feeds_lift' (v := lp) (truthO_bool lp) ?_
  refine feeds_lift' (v := points) (allO_map fun p hp => pairO_pair (g2 p hp)) ?_
  exact feeds_pure _
theorem ins_feeds {i : InsV} (g : GoodI i) {n : Nat} (hn : n < 31) :
    Feeds (insR n (jw (wInst :: quoted i.name :: [i.fade, i.newNote, i.dup, i.dupDo, i.global, i.cutoff, i.reso].map itoa))) (insL i).tail i := by
  obtain ⟨name, keys, volume, panning, pitch, fade, newNote, dup, dupDo, global, cutoff, reso⟩ := i
  obtain ⟨g1, g2, g3, g4, g5, g6, g7⟩ := g
  simp only at g1 g2 g3 g4 g5 g6 g7
  refine feeds_must' (by simpa using hn) ?_
  refine feeds_lift' (v := (name, [fade, newNote, dup, dupDo, global, cutoff, reso])) (namedO_jw g1 g2 rfl (by decide)) ?_
  refine feeds_word' (ws := keys.map pairT) (by exact ignored_jw (c := 107) (q := [101, 121, 115]) (by decide)) (wordsO_jw (by decide) (nosp_pairs _) (.inl (by decide))) ?_
  refine feeds_must' (by simp only [List.length_map]; rcases g3 with h | h <;> simp [h]) ?_
  refine feeds_lift' (v := keys) (allO_map fun p hp => pairO_pair (g4 p hp)) ?_
  refine feeds_bnd (L := [_]) (env_feeds g5 (by decide) (by decide)) ?_
  refine feeds_bnd (L := [_]) (env_feeds g6 (by decide) (by decide)) ?_
  refine feeds_bnd (L := [_]) (M := []) (env_feeds g7 (by decide) (by decide)) ?_
  exact feeds_pure _
end Go.Tx

namespace Go.Tx
open Go.Lib
theorem takeWhile_stop {w r : Bs} (hw : NoSp w) (hr : r = [] ∨ ∃ q, r = 32 :: q) : (w ++ r).takeWhile (· != 32) = w := by
  induction w with
  | nil =>
    rcases hr with rfl | ⟨q, rfl⟩
    · rfl
    · simp
  | cons c w ih =>
    have := hw c (by simp)
    rw [List.cons_append, List.takeWhile_cons_of_pos (by simpa using this), ih fun b hb => hw b (List.mem_cons_of_mem _ hb)]
theorem cutW_jw {w : Bs} {ws : List Bs} (hw : NoSp w) : cutW (jw (w :: ws)) = w := by
  rw [jw_cons]
  refine takeWhile_stop hw ?_
  split
  · exact .inl rfl
  · exact .inr ⟨_, rfl⟩
theorem adv_pat : adv wPattern 0 = 0 := by decide
theorem adv_smp {k : Nat} (h : k ≤ 1) : adv wSample k = 1 := by
  match k, h with
  | 0, _ => decide
  | 1, _ => decide
theorem adv_ins {k : Nat} (h : k ≤ 2) : adv wInst k = 2 := by
  match k, h with
  | 0, _ => decide
  | 1, _ => decide
  | 2, _ => decide
theorem ne_end {l w : Bs} (h : cutW l = w) (hw : w ≠ wEnd) : l ≠ wEnd := by
  rintro rfl
  exact hw (by rw [← h]; decide)
theorem body_end (f k : Nat) (s : SongV) : Feeds (bodyR (f + 1) k s) [wEnd] s := by
  refine feeds_line' (by decide) ?_
  rw [if_pos rfl]
  exact feeds_pure _
theorem body_ins : ∀ (xs : List InsV) (f k : Nat) (s : SongV), k ≤ 2 → xs.length < f → (∀ x ∈ xs, GoodI x) → s.insts.length + xs.length ≤ 31 →
    Feeds (bodyR f k s) (xs.flatMap insL ++ [wEnd]) { s with insts := s.insts ++ xs }
  | [], f, k, s, _, hf, _, _ => by
    obtain ⟨f', rfl⟩ : ∃ g, f = g + 1 := ⟨f - 1, by simp at hf; omega⟩
    simpa using body_end f' k s
  | x :: r, f, k, s, hk, hf, hg, hl => by
    obtain ⟨f', rfl⟩ : ∃ g, f = g + 1 := ⟨f - 1, by simp at hf; omega⟩
    simp only [List.length_cons] at hf hl
    have ec : cutW (jw (wInst :: quoted x.name :: [x.fade, x.newNote, x.dup, x.dupDo, x.global, x.cutoff, x.reso].map itoa)) = wInst := cutW_jw (by decide)
    have e : (x :: r).flatMap insL ++ [wEnd] = jw (wInst :: quoted x.name :: [x.fade, x.newNote, x.dup, x.dupDo, x.global, x.cutoff, x.reso].map itoa) :: ((insL x).tail ++ (r.flatMap insL ++ [wEnd])) := by
      rw [List.flatMap_cons, List.append_assoc]; rfl
    rw [e]
    refine feeds_line' (ignored_jw (by decide)) ?_
    rw [if_neg (ne_end ec (by decide)), ec, adv_ins hk, if_neg (by decide), if_neg (by decide), if_pos rfl]
    refine feeds_bnd (ins_feeds (hg x (by simp)) (by omega)) ?_
    have := body_ins r f' 2 { s with insts := s.insts ++ [x] } (by omega) (by omega) (fun y hy => hg y (List.mem_cons_of_mem _ hy)) (by simp; omega)
    simpa using this
theorem body_smp : ∀ (xs : List SmpV) (is : List InsV) (f k : Nat) (s : SongV), k ≤ 1 → xs.length + is.length < f → (∀ x ∈ xs, GoodS x) → (∀ x ∈ is, GoodI x) → s.samples.length + xs.length ≤ 31 → s.insts.length + is.length ≤ 31 →
    Feeds (bodyR f k s) (xs.flatMap smpL ++ (is.flatMap insL ++ [wEnd])) { s with samples := s.samples ++ xs, insts := s.insts ++ is }
  | [], is, f, k, s, hk, hf, _, hi, _, hl => by
    have := body_ins is f k s (by omega) (by simpa using hf) hi hl
    simpa using this
  | x :: r, is, f, k, s, hk, hf, hg, hi, hl, hl2 => by
    obtain ⟨f', rfl⟩ : ∃ g, f = g + 1 := ⟨f - 1, by simp at hf; omega⟩
    simp only [List.length_cons] at hf hl
    have ec : cutW (jw (wSample :: quoted x.name :: [x.bits, x.rate, x.volume, x.pan, x.fine].map itoa)) = wSample := cutW_jw (by decide)
    have e : (x :: r).flatMap smpL ++ (is.flatMap insL ++ [wEnd]) = jw (wSample :: quoted x.name :: [x.bits, x.rate, x.volume, x.pan, x.fine].map itoa) :: ((smpL x).tail ++ (r.flatMap smpL ++ (is.flatMap insL ++ [wEnd]))) := by
      rw [List.flatMap_cons, List.append_assoc]; rfl
    rw [e]
    refine feeds_line' (ignored_jw (by decide)) ?_
    rw [if_neg (ne_end ec (by decide)), ec, adv_smp hk, if_neg (by decide), if_pos rfl]
    refine feeds_bnd (smp_feeds (hg x (by simp)) (by omega)) ?_
    have := body_smp r is f' 1 { s with samples := s.samples ++ [x] } (by omega) (by omega) (fun y hy => hg y (List.mem_cons_of_mem _ hy)) hi (by simp; omega) hl2
    simpa using this
theorem body_pat {ch : Int} (hc : 1 ≤ ch ∧ ch ≤ 16) : ∀ (ps : List PatV) (xs : List SmpV) (is : List InsV) (f : Nat) (s : SongV), s.channels = ch → ps.length + xs.length + is.length < f → (∀ p ∈ ps, GoodP ch p) → (∀ x ∈ xs, GoodS x) → (∀ x ∈ is, GoodI x) →
    s.patterns.length + ps.length ≤ 32 → s.samples.length + xs.length ≤ 31 → s.insts.length + is.length ≤ 31 →
    Feeds (bodyR f 0 s) (ps.flatMap (patL ch.toNat) ++ (xs.flatMap smpL ++ (is.flatMap insL ++ [wEnd]))) { s with patterns := s.patterns ++ ps, samples := s.samples ++ xs, insts := s.insts ++ is }
  | [], xs, is, f, s, hs, hf, _, hx, hi, _, hl, hl2 => by
    have := body_smp xs is f 0 s (by omega) (by simpa using hf) hx hi hl hl2
    simpa using this
  | p :: r, xs, is, f, s, hs, hf, hg, hx, hi, hl, hl1, hl2 => by
    obtain ⟨f', rfl⟩ : ∃ g, f = g + 1 := ⟨f - 1, by simp at hf; omega⟩
    simp only [List.length_cons] at hf hl
    have ec : cutW (jw (wPattern :: [p.rows].map itoa)) = wPattern := cutW_jw (by decide)
    have e : (p :: r).flatMap (patL ch.toNat) ++ (xs.flatMap smpL ++ (is.flatMap insL ++ [wEnd])) = jw (wPattern :: [p.rows].map itoa) :: (rowsL ch.toNat p.rows.toNat p.cells ++ (r.flatMap (patL ch.toNat) ++ (xs.flatMap smpL ++ (is.flatMap insL ++ [wEnd])))) := by
      rw [List.flatMap_cons, List.append_assoc]; rfl
    rw [e]
    refine feeds_line' (ignored_jw (by decide)) ?_
    rw [if_neg (ne_end ec (by decide)), ec, adv_pat, if_pos rfl, hs]
    refine feeds_bnd (pat_feeds hc (hg p (by simp)) (by omega)) ?_
    have := body_pat hc r xs is f' { s with patterns := s.patterns ++ [p] } hs (by omega) (fun y hy => hg y (List.mem_cons_of_mem _ hy)) hx hi (by simp; omega) hl1 hl2
    simpa [hs] using this
theorem song_feeds {s : SongV} (g : Good s) : Feeds songR (fmtL s) s := by
  have h1 := head_feeds g
  have h2 := body_pat g.channels s.patterns s.samples s.insts 96 { s with patterns := [], samples := [], insts := [] } rfl (by have := g.patterns.1; have := g.samples.1; have := g.insts.1; omega)
    g.patterns.2 g.samples.2 g.insts.2 (by simpa using g.patterns.1) (by simpa using g.samples.1) (by simpa using g.insts.1)
  have := feeds_bnd (f := fun s => bodyR 96 0 s) h1 h2
  simpa [songR, fmtL] using this
abbrev Clean (x : Bs) : Prop := ∀ b ∈ x, b ≠ 10
def LineOk (x : Bs) : Prop := ignored x = false ∧ Clean x
theorem clean_join {sep : Bs} (hs : Clean sep) : ∀ {l : List Bs}, (∀ x ∈ l, Clean x) → Clean (join l sep)
  | [], _ => by simp [join_nil, Clean]
  | [x], h => by rw [join_one]; exact h x (by simp)
  | x :: y :: r, h => by
    rw [join_cons2]
    intro b hb
    rcases List.mem_append.1 hb with hb | hb
    · rcases List.mem_append.1 hb with hb | hb
      · exact h x (by simp) b hb
      · exact hs b hb
    · exact clean_join hs (l := y :: r) (fun z hz => h z (List.mem_cons_of_mem _ hz)) b hb
theorem clean_itoa (n : Int) : Clean (itoa n) := itoa_ne n (by decide) (by decide)
theorem clean_nums (l : List Int) : ∀ x ∈ l.map itoa, Clean x := by
  intro x hx
  obtain ⟨n, _, rfl⟩ := List.mem_map.1 hx
  exact clean_itoa n
theorem clean_pairs (l : List (Int × Int)) : ∀ x ∈ l.map pairT, Clean x := by
  intro x hx
  obtain ⟨p, _, rfl⟩ := List.mem_map.1 hx
  intro b hb
  unfold pairT at hb
  rcases List.mem_append.1 hb with h | h
  · exact clean_itoa _ b h
  · rcases List.mem_cons.1 h with rfl | h
    · decide
    · exact clean_itoa _ b h
theorem clean_ord (o : Int) : Clean (ordT o) := by
  unfold ordT
  split
  · decide
  · split
    · decide
    · exact clean_itoa o
theorem clean_pr {s : Bs} (h : ∀ c ∈ s, isPr c = true) : Clean s := by
  intro b hb e
  have := h b hb
  subst e
  exact absurd this (by decide)
theorem clean_quoted {s : Bs} (h : Named s) : Clean (quoted s) := by
  have := clean_pr (esc_bytes h.2)
  intro b hb
  unfold quoted at hb
  simp only [List.mem_cons, List.mem_append, List.not_mem_nil, or_false] at hb
  rcases hb with rfl | h | rfl
  · decide
  · exact this b h
  · decide
theorem lineOk_jw {c : UInt8} {q : Bs} {ws : List Bs} (hc : c ≠ 35) (hq : Clean (c :: q)) (hw : ∀ x ∈ ws, Clean x) : LineOk (jw ((c :: q) :: ws)) := by
  refine ⟨ignored_jw hc, clean_join (by decide) ?_⟩
  intro x hx
  rcases List.mem_cons.1 hx with rfl | hx
  · exact hq
  · exact hw x hx
theorem mem_cons_clean {x : Bs} {l : List Bs} (h1 : Clean x) (h2 : ∀ y ∈ l, Clean y) : ∀ y ∈ x :: l, Clean y := by
  intro y hy
  rcases List.mem_cons.1 hy with rfl | hy
  · exact h1
  · exact h2 y hy
theorem rows_ok {ch : Nat} (hc : 1 ≤ ch) : ∀ (k : Nat) (l : List C6), l.length = k * ch → (∀ c ∈ l, c.valid = true) → ∀ x ∈ rowsL ch k l, LineOk x
  | 0, _, _, _ => by simp [rowsL]
  | k + 1, l, hl, hv => by
    rw [Nat.succ_mul] at hl
    intro x hx
    simp only [rowsL, List.mem_cons] at hx
    rcases hx with rfl | hx
    · have hvt : ∀ c ∈ l.take ch, c.valid = true := fun c h => hv c (List.mem_of_mem_take h)
      refine ⟨ignored_row (fun e => ?_) hvt, clean_join (by decide) ?_⟩
      · have := congrArg List.length e
        rw [List.length_take, List.length_nil] at this
        omega
      · intro y hy
        obtain ⟨c, hc, rfl⟩ := List.mem_map.1 hy
        exact fun b hb => ((cell_good (hvt c hc)).1 b hb).2
    · exact rows_ok hc k (l.drop ch) (by rw [List.length_drop]; omega) (fun c h => hv c (List.mem_of_mem_drop h)) x hx
theorem chunks_ok : ∀ (f : Nat) (l : List Int), ∀ x ∈ chunks f l, LineOk x
  | 0, _ => by simp [chunks]
  | f + 1, l => by
    intro x hx
    unfold chunks at hx
    split at hx
    · cases hx
    · rename_i hne
      rcases List.mem_cons.1 hx with rfl | hx
      · obtain ⟨n, r, hn⟩ : ∃ n r, l.take 32 = n :: r := by
          cases l with
          | nil => exact absurd rfl hne
          | cons n r => exact ⟨n, r.take 31, rfl⟩
        rw [hn]
        exact ⟨ignored_nums, clean_join (by decide) (clean_nums _)⟩
      · exact chunks_ok f _ x hx
theorem fmt_ok {s : SongV} (g : Good s) : ∀ x ∈ fmtL s, LineOk x := by
  intro x hx
  unfold fmtL at hx
  simp only [List.mem_append] at hx
  rcases hx with hx | hx | hx | hx | hx
  · simp only [headL, List.mem_cons, List.not_mem_nil, or_false] at hx
    rcases hx with rfl | rfl | rfl | rfl | rfl | rfl | rfl
    · exact ⟨by decide, by decide⟩
    · exact lineOk_jw (by decide) (by decide) (mem_cons_clean (clean_quoted g.name) (by simp))
    · exact lineOk_jw (by decide) (by decide) (mem_cons_clean (dialO_dname g.dialect).2.2 (by simp))
    · exact lineOk_jw (by decide) (by decide) (clean_nums _)
    · exact lineOk_jw (by decide) (by decide) (clean_nums _)
    · exact lineOk_jw (by decide) (by decide) (clean_nums _)
    · refine lineOk_jw (by decide) (by decide) ?_
      intro y hy
      obtain ⟨o, _, rfl⟩ := List.mem_map.1 hy
      exact clean_ord o
  · obtain ⟨p, hp, hx⟩ := List.mem_flatMap.1 hx
    obtain ⟨g1, g2, g3, g4⟩ := g.patterns.2 p hp
    rcases List.mem_cons.1 hx with rfl | hx
    · exact lineOk_jw (by decide) (by decide) (clean_nums _)
    · exact rows_ok (by have := g.channels; omega) _ _ g3 g4 x hx
  · obtain ⟨p, hp, hx⟩ := List.mem_flatMap.1 hx
    obtain ⟨g1, g2, g3, g4⟩ := g.samples.2 p hp
    rcases List.mem_cons.1 hx with rfl | hx
    · exact lineOk_jw (by decide) (by decide) (mem_cons_clean (clean_quoted g1) (clean_nums _))
    · rcases List.mem_cons.1 hx with rfl | hx
      · exact lineOk_jw (by decide) (by decide) (clean_nums _)
      · rcases List.mem_cons.1 hx with rfl | hx
        · exact lineOk_jw (by decide) (by decide) (clean_nums _)
        · exact chunks_ok _ _ x hx
  · obtain ⟨p, hp, hx⟩ := List.mem_flatMap.1 hx
    obtain ⟨g1, g2⟩ := g.insts.2 p hp
    simp only [insL, List.mem_cons, List.not_mem_nil, or_false] at hx
    rcases hx with rfl | rfl | rfl | rfl | rfl
    · exact lineOk_jw (by decide) (by decide) (mem_cons_clean (clean_quoted g1) (clean_nums _))
    · exact lineOk_jw (by decide) (by decide) (clean_pairs _)
    all_goals
      refine lineOk_jw (by decide) (by decide) ?_
      intro y hy
      rcases List.mem_append.1 hy with h | h
      · exact clean_nums _ y h
      · exact clean_pairs _ y h
  · simp only [List.mem_singleton] at hx
    subst hx
    exact ⟨by decide, by decide⟩
theorem flat_join : ∀ {l : List Bs}, l ≠ [] → flat l = join l [10] ++ [10]
  | [], h => absurd rfl h
  | [x], _ => by simp [flat, join_one]
  | x :: y :: r, _ => by
    have ih := flat_join (l := y :: r) (by simp)
    rw [join_cons2, List.append_assoc, ← ih]
    simp [flat]
theorem linesT_flat {l : List Bs} (h : ∀ x ∈ l, Clean x) : linesT (flat l) = l := by
  by_cases hl : l = []
  · subst hl; rfl
  · have hf := flat_join hl
    unfold linesT
    rw [if_neg (by rw [hf]; simp), hf]
    have ht : trimSuffix (join l [10] ++ [10]) [10] = join l [10] := by
      unfold trimSuffix
      rw [if_pos (by unfold hasSuffix; exact List.isSuffixOf_iff_suffix.2 ⟨_, rfl⟩)]
      simp
    rw [ht]
    exact split_join (by simp) hl fun x hx => free_byte (h x hx)
theorem live_ok {l : List Bs} (h : ∀ x ∈ l, LineOk x) : live l = l := by
  unfold live
  rw [List.filter_eq_self]
  intro x hx
  simp [(h x hx).1]
theorem parse_ok {valid : SongV → Bool} {s : SongV} (g : Good s) (hv : valid s = true) {l : List Bs} (hc : ∀ x ∈ l, Clean x) (hl : live l = fmtL s) (hn : (flat l).length ≤ 200000) :
    parseT valid (flat l) = (s, 0, 0) := by
  unfold parseT
  rw [if_neg (by omega), linesT_flat hc]
  obtain ⟨j, h1, h2⟩ := (song_feeds g l 0).1 [] (by simpa using hl)
  rw [h1]
  simp only
  rcases moreL_live (l.drop j) j with ⟨h3, h4⟩ | ⟨x, k, h0, h3, h4⟩
  · obtain ⟨a, b⟩ : ∃ b, moreL (l.drop j) j = (none, b) := ⟨_, by rw [← h4]⟩
    rw [b]
    simp [hv]
  · rw [h2] at h4; cases h4
theorem parse_short {valid : SongV → Bool} {s : SongV} (g : Good s) {k : Nat} (hk : k < (fmtL s).length) (hn : (flat ((fmtL s).take k)).length ≤ 200000) :
    parseT valid (flat ((fmtL s).take k)) = (SongV.zero, 12, (k : Int)) := by
  have hok := fmt_ok g
  have hok' : ∀ x ∈ (fmtL s).take k, LineOk x := fun x hx => hok x (List.mem_of_mem_take hx)
  have hlen : ((fmtL s).take k).length = k := by rw [List.length_take]; omega
  unfold parseT
  rw [if_neg (by omega), linesT_flat fun x hx => (hok' x hx).2]
  have := (song_feeds g ((fmtL s).take k) 0).2 ((fmtL s).take k) (List.take_prefix _ _) (fun e => by have := congrArg List.length e; omega) (by simpa using live_ok hok')
  rw [this]
  simp only [hlen]
end Go.Tx

namespace Go.Tx
open Go.Lib
def within (x lo hi : Int) : Bool := decide (lo ≤ x) && decide (x ≤ hi)
def nameB (s : Bs) : Bool := s.all isPr && decide (s.length ≤ 22)
def isD (d : Int) : Bool := within d 1 6
def qCh (d : Int) : Int := if d = 1 then 4 else if d = 2 then 16 else if d = 3 then 16 else if d = 4 then 16 else if d = 5 then 8 else if d = 6 then 4 else 0
def qPat (d : Int) : Int := if isD d then 32 else 0
def qRows (d : Int) : Int := if d = 1 then 64 else if d = 2 then 64 else if d = 5 then 64 else 0
def qIns (d : Int) : Bool := d == 3 || d == 4 || d == 6
def qLin (d : Int) : Bool := d == 3 || d == 4
def qLow (d : Int) : Int := if d = 1 then 49 else if d = 2 then 13 else if d = 3 then 1 else if d = 4 then 1 else if d = 5 then 13 else if d = 6 then 13 else 0
def qHigh (d : Int) : Int := if d = 1 then 84 else if d = 2 then 108 else if d = 3 then 96 else if d = 4 then 120 else if d = 5 then 72 else if d = 6 then 108 else 0
def noteB (d n : Int) : Bool :=
  if n = 0 then true else if n = 255 then d == 3 || d == 4 || d == 6 else if n = 254 then d == 2 || d == 4 else if n = 253 then d == 4 else within n (qLow d) (qHigh d)
def volMax (d : Int) : Int := if d = 2 then 1 else if d = 3 then 8 else if d = 4 then 10 else 0
def letters (d : Int) : Bs :=
  if d = 1 then [48, 49, 50, 51, 52, 53, 54, 55, 56, 57, 65, 66, 67, 68, 69, 70]
  else if d = 2 then [65, 66, 67, 68, 69, 70, 71, 72, 73, 74, 75, 76, 79, 81, 82, 83, 84, 85, 86, 88]
  else if d = 3 then [48, 49, 50, 51, 52, 53, 54, 55, 56, 57, 65, 66, 67, 68, 69, 70, 71, 72, 75, 76, 80, 82, 84, 88]
  else if d = 4 then [65, 66, 67, 68, 69, 70, 71, 72, 73, 74, 75, 76, 77, 78, 79, 80, 81, 82, 83, 84, 85, 86, 87, 88, 89, 90]
  else if d = 5 then [48, 49, 50, 51, 52, 53]
  else if d = 6 then [48, 49, 50, 51, 52, 65, 66, 67, 68, 69, 70, 78, 83] else []
def C6.inst (c : C6) : Int := c.2.1
def cellB (d : Int) (c : C6) : Bool :=
  isD d && c.valid && noteB d c.1 && decide (c.2.2.1 ≤ volMax d) && (c.2.2.2.2.1 == 0 || decide (0 ≤ indexByte (letters d) (dig (c.2.2.2.2.1 - 1))))
def names (s : SongV) : Int := if qIns s.dialect then s.insts.length else s.samples.length
def patB (s : SongV) (p : PatV) : Bool :=
  (qRows s.dialect == 0 || p.rows == qRows s.dialect) && within s.channels 1 16 && within p.rows 1 64 && decide ((p.cells.length : Int) = p.rows * s.channels) &&
  p.cells.all C6.valid && p.cells.all (cellB s.dialect) && p.cells.all (fun c => decide (c.inst ≤ names s))
def ordB (s : SongV) (o : Int) : Bool := o == 254 || o == 255 || within o 0 (s.patterns.length - 1)
def loopB (k a b n : Int) : Bool := if k = 0 then a == 0 && b == 0 else if k = 1 ∨ k = 2 then decide (0 ≤ a) && decide (a < b) && decide (b ≤ n) else false
def frameB (bits v : Int) : Bool := if bits = 8 then within v (-128) 127 else within v (-32768) 32767
def smpB (s : SmpV) : Bool :=
  decide (s.name.length ≤ 22) && (s.bits == 8 || s.bits == 16) && decide (s.data.length ≤ 4096) && s.name.all isPr && s.data.all (frameB s.bits) &&
  within s.rate 1 65535 && within s.volume 0 64 && within s.pan (-1) 256 && within s.fine (-64) 63 && loopB s.lp s.start s.stop s.data.length && loopB s.sus s.susStart s.susEnd s.data.length
def ptsB (lo hi : Int) : Option Int → List (Int × Int) → Bool
  | _, [] => true
  | none, p :: r => p.1 == 0 && decide (p.1 ≤ 9999) && within p.2 lo hi && ptsB lo hi (some p.1) r
  | some q, p :: r => decide (q < p.1) && decide (p.1 ≤ 9999) && within p.2 lo hi && ptsB lo hi (some p.1) r
def rightB (is : Bool) (a b n : Int) : Bool := if is then decide (0 ≤ a) && decide (a ≤ b) && decide (b < n) else a == 0 && b == 0
def envB (e : EnvV) (lo hi : Int) : Bool :=
  decide (e.points.length ≤ 16) && !(e.on && e.points.isEmpty) && ptsB lo hi none e.points && rightB e.sus e.susStart e.susEnd e.points.length && rightB e.lp e.lpStart e.lpEnd e.points.length
def keyB (k : Int × Int) : Bool := within k.1 0 119 && within k.2 0 31
def insB (i : InsV) : Bool :=
  nameB i.name && (decide (i.keys.length = 0) || decide (i.keys.length = 120)) && i.keys.all keyB && envB i.volume 0 64 && envB i.panning (-32) 32 && envB i.pitch (-32) 32 &&
  within i.fade 0 1024 && within i.newNote 0 3 && within i.dup 0 3 && within i.dupDo 0 2 && within i.global 0 64 && within i.cutoff (-1) 127 && within i.reso (-1) 127
def headB (s : SongV) : Bool := nameB s.name && !(qCh s.dialect == 0) && within s.channels 1 (qCh s.dialect)
def patsB (s : SongV) : Bool := within s.patterns.length 1 (qPat s.dialect) && s.patterns.all (patB s)
def ordsB (s : SongV) : Bool := within s.orders.length 1 64 && s.orders.all (ordB s) && within s.restart 0 (s.orders.length - 1)
def numsB (s : SongV) : Bool := within s.speed 1 31 && within s.tempo 32 255 && within s.global 0 128 && !(s.linear && !qLin s.dialect) && decide ((s.pans.length : Int) = s.channels) && s.pans.all (within · 0 256)
def sndsB (s : SongV) : Bool :=
  decide (s.samples.length ≤ 31) && !(s.dialect == 6 && decide (0 < s.samples.length)) && s.samples.all smpB && decide (s.insts.length ≤ 31) && !(!qIns s.dialect && decide (0 < s.insts.length)) &&
  s.insts.all fun i => insB i && i.keys.all fun k => decide (k.2 ≤ s.samples.length)
def validS (s : SongV) : Bool := headB s && patsB s && ordsB s && numsB s && sndsB s
theorem within_spec {x lo hi : Int} (h : within x lo hi = true) : lo ≤ x ∧ x ≤ hi := by simpa [within] using h
theorem nameB_spec {s : Bs} (h : nameB s = true) : Named s := by
  simp only [nameB, Bool.and_eq_true, List.all_eq_true, decide_eq_true_eq] at h
  exact ⟨h.2, h.1⟩
theorem loopB_spec {k a b n : Int} (hn : n ≤ 4096) (h : loopB k a b n = true) : Num k ∧ Num a ∧ Num b := by
  unfold loopB at h
  split at h
  · simp only [Bool.and_eq_true, beq_iff_eq] at h
    obtain ⟨rfl, rfl⟩ := h
    subst k
    exact ⟨⟨by decide, by decide⟩, ⟨by decide, by decide⟩, ⟨by decide, by decide⟩⟩
  · split at h
    · simp only [Bool.and_eq_true, decide_eq_true_eq] at h
      exact ⟨⟨by omega, by omega⟩, ⟨by omega, by omega⟩, ⟨by omega, by omega⟩⟩
    · cases h
theorem smpB_spec {s : SmpV} (h : smpB s = true) : GoodS s := by
  simp only [smpB, Bool.and_eq_true, List.all_eq_true, decide_eq_true_eq, Bool.or_eq_true, beq_iff_eq] at h
  obtain ⟨⟨⟨⟨⟨⟨⟨⟨⟨⟨h1, h2⟩, h3⟩, h4⟩, h5⟩, h6⟩, h7⟩, h8⟩, h9⟩, h10⟩, h11⟩ := h
  have h6 := within_spec h6
  have h7 := within_spec h7
  have h8 := within_spec h8
  have h9 := within_spec h9
  obtain ⟨a1, a2, a3⟩ := loopB_spec (by omega) h10
  obtain ⟨b1, b2, b3⟩ := loopB_spec (by omega) h11
  refine ⟨⟨h1, h4⟩, ?_, ?_, h3, ?_⟩
  · intro n hn
    simp only [List.mem_cons, List.not_mem_nil, or_false] at hn
    rcases hn with rfl | rfl | rfl | rfl | rfl <;> exact ⟨by omega, by omega⟩
  · intro n hn
    simp only [List.mem_cons, List.not_mem_nil, or_false] at hn
    rcases hn with rfl | rfl | rfl | rfl | rfl | rfl <;> assumption
  · intro n hn
    have := h5 n hn
    unfold frameB at this
    split at this
    · have := within_spec this; exact ⟨by omega, by omega⟩
    · have := within_spec this; exact ⟨by omega, by omega⟩
theorem ptsB_some {lo hi : Int} (h0 : -1000 ≤ lo) (h1 : hi ≤ 1000) : ∀ {l : List (Int × Int)} {q : Int}, 0 ≤ q → ptsB lo hi (some q) l = true → ∀ p ∈ l, Num p.1 ∧ Num p.2
  | [], _, _, _ => by simp
  | x :: r, q, hq, h => by
    simp only [ptsB, Bool.and_eq_true, decide_eq_true_eq] at h
    obtain ⟨⟨⟨a, b⟩, c⟩, d⟩ := h
    have c := within_spec c
    intro p hp
    rcases List.mem_cons.1 hp with rfl | hp
    · exact ⟨⟨by omega, by omega⟩, ⟨by omega, by omega⟩⟩
    · exact ptsB_some h0 h1 (by omega) d p hp
theorem ptsB_spec {lo hi : Int} (h0 : -1000 ≤ lo) (h1 : hi ≤ 1000) {l : List (Int × Int)} (h : ptsB lo hi none l = true) : ∀ p ∈ l, Num p.1 ∧ Num p.2 := by
  cases l with
  | nil => simp
  | cons x r =>
    simp only [ptsB, Bool.and_eq_true, decide_eq_true_eq, beq_iff_eq] at h
    obtain ⟨⟨⟨a, b⟩, c⟩, d⟩ := h
    have c := within_spec c
    intro p hp
    rcases List.mem_cons.1 hp with rfl | hp
    · exact ⟨⟨by omega, by omega⟩, ⟨by omega, by omega⟩⟩
    · exact ptsB_some h0 h1 (by omega) d p hp
theorem rightB_spec {is : Bool} {a b n : Int} (hn : n ≤ 16) (h : rightB is a b n = true) : Num a ∧ Num b := by
  unfold rightB at h
  split at h
  · simp only [Bool.and_eq_true, decide_eq_true_eq] at h
    exact ⟨⟨by omega, by omega⟩, ⟨by omega, by omega⟩⟩
  · simp only [Bool.and_eq_true, beq_iff_eq] at h
    exact ⟨⟨by omega, by omega⟩, ⟨by omega, by omega⟩⟩
theorem envB_spec {e : EnvV} {lo hi : Int} (h0 : -1000 ≤ lo) (h1 : hi ≤ 1000) (h : envB e lo hi = true) : GoodE e := by
  simp only [envB, Bool.and_eq_true, decide_eq_true_eq] at h
  obtain ⟨⟨⟨⟨a, b⟩, c⟩, d⟩, f⟩ := h
  obtain ⟨d1, d2⟩ := rightB_spec (by omega) d
  obtain ⟨f1, f2⟩ := rightB_spec (by omega) f
  refine ⟨?_, ptsB_spec h0 h1 c⟩
  intro n hn
  simp only [List.mem_cons, List.not_mem_nil, or_false] at hn
  rcases hn with rfl | rfl | rfl | rfl <;> assumption
theorem insB_spec {i : InsV} (h : insB i = true) : GoodI i := by
  simp only [insB, Bool.and_eq_true, List.all_eq_true, decide_eq_true_eq, Bool.or_eq_true] at h
  obtain ⟨⟨⟨⟨⟨⟨⟨⟨⟨⟨⟨⟨h1, h2⟩, h3⟩, h4⟩, h5⟩, h6⟩, h7⟩, h8⟩, h9⟩, h10⟩, h11⟩, h12⟩, h13⟩ := h
  have h7 := within_spec h7
  have h8 := within_spec h8
  have h9 := within_spec h9
  have h10 := within_spec h10
  have h11 := within_spec h11
  have h12 := within_spec h12
  have h13 := within_spec h13
  refine ⟨nameB_spec h1, ?_, h2, ?_, envB_spec (by decide) (by decide) h4, envB_spec (by decide) (by decide) h5, envB_spec (by decide) (by decide) h6⟩
  · intro n hn
    simp only [List.mem_cons, List.not_mem_nil, or_false] at hn
    rcases hn with rfl | rfl | rfl | rfl | rfl | rfl | rfl <;> exact ⟨by omega, by omega⟩
  · intro k hk
    have := h3 k hk
    simp only [keyB, Bool.and_eq_true] at this
    have k1 := within_spec this.1
    have k2 := within_spec this.2
    exact ⟨⟨by omega, by omega⟩, ⟨by omega, by omega⟩⟩
theorem qCh_spec {d c : Int} (h : within c 1 (qCh d) = true) : (1 ≤ d ∧ d ≤ 6) ∧ 1 ≤ c ∧ c ≤ 16 := by
  have h := within_spec h
  unfold qCh at h
  repeat' split at h
  all_goals omega
theorem qPat_le (d : Int) : qPat d ≤ 32 := by unfold qPat; split <;> omega
theorem valid_good {s : SongV} (h : validS s = true) : Good s := by
  simp only [validS, Bool.and_eq_true] at h
  obtain ⟨⟨⟨⟨h1, h2⟩, h3⟩, h4⟩, h5⟩ := h
  simp only [headB, Bool.and_eq_true] at h1
  obtain ⟨⟨a1, a2⟩, a3⟩ := h1
  obtain ⟨d1, c1⟩ := qCh_spec a3
  simp only [patsB, Bool.and_eq_true, List.all_eq_true] at h2
  have p1 := within_spec h2.1
  have p2 := qPat_le s.dialect
  simp only [ordsB, Bool.and_eq_true, List.all_eq_true] at h3
  have o1 := within_spec h3.1.1
  have o2 := within_spec h3.2
  simp only [numsB, Bool.and_eq_true, List.all_eq_true] at h4
  obtain ⟨⟨⟨⟨⟨n1, n2⟩, n3⟩, n4⟩, n5⟩, n6⟩ := h4
  have n1 := within_spec n1
  have n2 := within_spec n2
  have n3 := within_spec n3
  simp only [sndsB, Bool.and_eq_true, List.all_eq_true, decide_eq_true_eq] at h5
  obtain ⟨⟨⟨⟨⟨s1, s2⟩, s3⟩, s4⟩, s5⟩, s6⟩ := h5
  refine ⟨nameB_spec a1, d1, c1, ?_, ?_, ⟨by omega, ?_⟩, ⟨by omega, ?_⟩, ⟨s1, fun x hx => smpB_spec (s3 x hx)⟩, ⟨s4, fun x hx => insB_spec (s6 x hx).1⟩⟩
  · intro n hn
    simp only [List.mem_cons, List.not_mem_nil, or_false] at hn
    rcases hn with rfl | rfl | rfl | rfl <;> exact ⟨by omega, by omega⟩
  · intro n hn
    have := within_spec (n6 n hn)
    exact ⟨by omega, by omega⟩
  · intro o ho
    have := h3.1.2 o ho
    simp only [ordB, Bool.or_eq_true, beq_iff_eq] at this
    rcases this with (rfl | rfl) | h
    · exact ⟨by decide, by decide, by decide⟩
    · exact ⟨by decide, by decide, by decide⟩
    · have := within_spec h
      exact ⟨by omega, by omega, by omega⟩
  · intro p hp
    have := h2.2 p hp
    simp only [patB, Bool.and_eq_true, List.all_eq_true, decide_eq_true_eq] at this
    obtain ⟨⟨⟨⟨⟨⟨q1, q2⟩, q3⟩, q4⟩, q5⟩, q6⟩, q7⟩ := this
    have q3 := within_spec q3
    refine ⟨by omega, by omega, ?_, q5⟩
    obtain ⟨r, hr⟩ := Int.eq_ofNat_of_zero_le (show 0 ≤ p.rows by omega)
    obtain ⟨c, hc⟩ := Int.eq_ofNat_of_zero_le (show 0 ≤ s.channels by omega)
    rw [hr, hc] at q4 ⊢
    simp only [Int.toNat_natCast] at q4 ⊢
    exact_mod_cast q4
end Go.Tx

namespace Go.Tx
open Go.Lib
def ahead (comment : Bs) (m : Nat) : List Bs := match m with | 0 => [] | k + 1 => (35 :: comment) :: List.replicate k []
def lawL (comment : Bs) (more : Nat → Nat) : Nat → List Bs → List Bs
  | _, [] => []
  | i, l :: r => ahead comment (more i) ++ (l :: lawL comment more (i + 1) r)
theorem flat_append (a b : List Bs) : flat (a ++ b) = flat a ++ flat b := by simp [flat]
theorem flat_cons (a : Bs) (b : List Bs) : flat (a :: b) = a ++ [10] ++ flat b := by simp [flat]
theorem live_append (a b : List Bs) : live (a ++ b) = live a ++ live b := by simp [live]
theorem live_ahead (comment : Bs) (m : Nat) : live (ahead comment m) = [] := by
  cases m with
  | zero => rfl
  | succ k =>
    unfold live ahead
    rw [List.filter_eq_nil_iff]
    intro x hx
    rcases List.mem_cons.1 hx with rfl | hx
    · simp [ignored]
    · obtain ⟨_, rfl⟩ := List.mem_replicate.1 hx
      simp [ignored]
theorem live_lawL (comment : Bs) (more : Nat → Nat) : ∀ (L : List Bs) (i : Nat), live (lawL comment more i L) = live L
  | [], _ => rfl
  | l :: r, i => by
    rw [lawL, live_append, live_ahead, List.nil_append]
    have : ∀ m : List Bs, live (l :: m) = live [l] ++ live m := fun m => live_append [l] m
    rw [this, this r, live_lawL comment more r (i + 1)]
theorem clean_lawL {comment : Bs} (hc : Clean comment) (more : Nat → Nat) : ∀ (L : List Bs) (i : Nat), (∀ x ∈ L, Clean x) → ∀ x ∈ lawL comment more i L, Clean x
  | [], _, _ => by simp [lawL]
  | l :: r, i, h => by
    intro x hx
    rw [lawL] at hx
    rcases List.mem_append.1 hx with hx | hx
    · cases hm : more i with
      | zero => rw [hm] at hx; simp [ahead] at hx
      | succ k =>
        rw [hm] at hx
        rcases List.mem_cons.1 hx with rfl | hx
        · intro b hb
          rcases List.mem_cons.1 hb with rfl | hb
          · decide
          · exact hc b hb
        · obtain ⟨_, rfl⟩ := List.mem_replicate.1 hx
          simp [Clean]
    · rcases List.mem_cons.1 hx with rfl | hx
      · exact h _ (by simp)
      · exact clean_lawL hc more r (i + 1) (fun y hy => h y (List.mem_cons_of_mem _ hy)) x hx
theorem ignores {s : SongV} (h : validS s = true) {comment : Bs} (hc : Clean comment) (more : Nat → Nat) (hn : (flat (lawL comment more 0 (fmtL s))).length ≤ 200000) :
    parseT validS (flat (lawL comment more 0 (fmtL s))) = (s, 0, 0) := by
  have g := valid_good h
  have ho := fmt_ok g
  refine parse_ok g h (clean_lawL hc more _ 0 fun x hx => (ho x hx).2) ?_ hn
  rw [live_lawL]
  exact live_ok ho
theorem flat_take : ∀ (L : List Bs) (k : Nat), (flat L).take (flat (L.take k)).length = flat (L.take k) := by
  intro L k
  have : flat L = flat (L.take k) ++ flat (L.drop k) := by rw [← flat_append, List.take_append_drop]
  rw [this, List.take_left]
theorem flat_take_le (L : List Bs) (k : Nat) : (flat (L.take k)).length ≤ (flat L).length := by
  have : flat L = flat (L.take k) ++ flat (L.drop k) := by rw [← flat_append, List.take_append_drop]
  rw [this]; simp
theorem begins {s : SongV} (h : validS s = true) (hn : (flat (fmtL s)).length ≤ 200000) {k : Nat} (hk : k < (fmtL s).length) :
    parseT validS ((flat (fmtL s)).take (flat ((fmtL s).take k)).length) = (SongV.zero, 12, (k : Int)) := by
  rw [flat_take]
  exact parse_short (valid_good h) hk (Nat.le_trans (flat_take_le _ _) hn)
def splitNL : Bs → Bs → List Bs
  | [], cur => if cur = [] then [] else [cur]
  | b :: r, cur => if b = 10 then cur :: splitNL r [] else splitNL r (cur ++ [b])
theorem splitNL_line : ∀ (x cur r : Bs), Clean x → splitNL (x ++ 10 :: r) cur = (cur ++ x) :: splitNL r []
  | [], cur, r, _ => by simp [splitNL]
  | b :: x, cur, r, h => by
    rw [List.cons_append, splitNL, if_neg (h b (by simp)), splitNL_line x (cur ++ [b]) r fun c hc => h c (List.mem_cons_of_mem _ hc)]
    simp
theorem splitNL_flat : ∀ {L : List Bs}, (∀ x ∈ L, Clean x) → splitNL (flat L) [] = L
  | [], _ => rfl
  | l :: r, h => by
    rw [flat_cons, List.append_assoc]
    have := splitNL_line l [] (flat r) (h l (by simp))
    simp only [List.nil_append] at this
    show splitNL (l ++ (10 :: flat r)) [] = _
    rw [this, splitNL_flat fun x hx => h x (List.mem_cons_of_mem _ hx)]
theorem fmt_len {s : SongV} : 8 ≤ (fmtL s).length := by
  unfold fmtL headL
  simp only [List.length_append, List.length_cons, List.length_nil]
  omega
end Go.Tx

namespace Go.Tx
open Go.Lib
theorem join_le {sep : Bs} {K : Nat} : ∀ {l : List Bs}, (∀ x ∈ l, x.length ≤ K) → (join l sep).length ≤ l.length * (K + sep.length)
  | [], _ => by simp [join_nil]
  | [x], h => by
    rw [join_one]
    have := h x (by simp)
    simp; omega
  | x :: y :: r, h => by
    rw [join_cons2]
    have h1 := h x (by simp)
    have h2 := join_le (sep := sep) (l := y :: r) fun z hz => h z (by simp [hz])
    simp only [List.length_append, List.length_cons] at h2 ⊢
    have : (r.length + 1 + 1) * (K + sep.length) = (r.length + 1) * (K + sep.length) + (K + sep.length) := by rw [Nat.add_mul, Nat.one_mul]
    omega
theorem jw_le {ws : List Bs} (n K : Nat) (hn : ws.length ≤ n) (h : ∀ w ∈ ws, w.length ≤ K) : (jw ws).length ≤ n * (K + 1) := by
  have h1 := join_le (sep := [32]) h
  have h2 := Nat.mul_le_mul_right (K + 1) hn
  exact Nat.le_trans h1 h2
theorem flat_len {K : Nat} : ∀ {L : List Bs}, (∀ x ∈ L, x.length ≤ K) → (flat L).length ≤ L.length * (K + 1)
  | [], _ => by simp [flat]
  | x :: r, h => by
    rw [flat_cons]
    have h1 := h x (by simp)
    have h2 := flat_len (L := r) fun z hz => h z (List.mem_cons_of_mem _ hz)
    simp only [List.length_append, List.length_cons, List.length_nil]
    rw [Nat.add_mul, Nat.one_mul]
    omega
theorem itoa_num {n : Int} (h : Num n) : (itoa n).length ≤ 21 := itoa_length_le n (by have := h.1; omega) (by have := h.2; omega)
theorem itoas {l : List Int} (h : ∀ n ∈ l, Num n) : ∀ w ∈ l.map itoa, w.length ≤ 60 := by
  intro w hw
  obtain ⟨n, hn, rfl⟩ := List.mem_map.1 hw
  have := itoa_num (h n hn)
  omega
theorem pairs_le {l : List (Int × Int)} (h : ∀ p ∈ l, Num p.1 ∧ Num p.2) : ∀ w ∈ l.map pairT, w.length ≤ 60 := by
  intro w hw
  obtain ⟨p, hp, rfl⟩ := List.mem_map.1 hw
  have h1 := itoa_num (h p hp).1
  have h2 := itoa_num (h p hp).2
  simp [pairT]; omega
theorem ord_le {o : Int} (h : GoodO o) : (ordT o).length ≤ 60 := by
  have := itoa_num h.2
  unfold ordT
  repeat' split
  all_goals simp
  omega
theorem quoted_le {s : Bs} (h : Named s) : (quoted s).length ≤ 60 := by
  have h1 : (esc s).length ≤ s.length * 2 := by
    unfold esc
    generalize s = l
    induction l with
    | nil => simp
    | cons c r ih =>
      simp only [List.flatMap_cons, List.length_append, List.length_cons]
      have : (if c = 92 then ([92, 92] : Bs) else if c = 34 then [92, 34] else [c]).length ≤ 2 := by
        split
        · simp
        · split <;> simp
      omega
  have := h.1
  simp [quoted]; omega
theorem mem2 {w : Bs} {l : List Bs} {K : Nat} (h1 : w.length ≤ K) (h2 : ∀ x ∈ l, x.length ≤ K) : ∀ x ∈ w :: l, x.length ≤ K := by
  intro x hx
  rcases List.mem_cons.1 hx with rfl | hx
  · exact h1
  · exact h2 x hx
theorem mem0 {K : Nat} : ∀ x ∈ ([] : List Bs), x.length ≤ K := by simp
theorem dname_le (d : Int) : (dname d).length ≤ 60 := by
  unfold dname
  repeat' split
  all_goals decide
theorem cell_le (c : C6) : c.text.length ≤ 14 := by
  have := notedT_len c.1
  have h1 : ∀ b, (instT b).length = 2 := fun b => by unfold instT; split <;> rfl
  have h2 : ∀ c d, (volT c d).length = 3 := fun c d => by unfold volT; split <;> rfl
  have h3 : ∀ c d, (effT c d).length = 3 := fun c d => by unfold effT; split <;> rfl
  simp only [C6.text, cellT, List.length_append, List.length_cons, h1, h2, h3]
  omega
theorem row_le {ch : Nat} (hc : ch ≤ 16) (l : List C6) : (rowL (l.take ch)).length ≤ 16 * 17 := by
  have h := join_le (sep := bar) (K := 14) (l := (l.take ch).map C6.text) (by
    intro x hx
    obtain ⟨c, _, rfl⟩ := List.mem_map.1 hx
    exact cell_le c)
  have : ((l.take ch).map C6.text).length ≤ 16 := by rw [List.length_map, List.length_take]; omega
  have h2 := Nat.mul_le_mul_right (14 + bar.length) this
  exact Nat.le_trans h h2
theorem rows_le {ch : Nat} (hc : ch ≤ 16) : ∀ (k : Nat) (l : List C6), (rowsL ch k l).length = k ∧ ∀ x ∈ rowsL ch k l, x.length ≤ 100000
  | 0, l => ⟨rfl, by simp [rowsL]⟩
  | k + 1, l => by
    obtain ⟨h1, h2⟩ := rows_le hc k (l.drop ch)
    refine ⟨by simp [rowsL, h1], fun x hx => ?_⟩
    rcases List.mem_cons.1 hx with rfl | hx
    · exact Nat.le_trans (row_le hc l) (by decide)
    · exact h2 x hx
theorem chunks_le : ∀ (f : Nat) (l : List Int), (∀ n ∈ l, Num n) → (chunks f l).length ≤ f ∧ ∀ x ∈ chunks f l, x.length ≤ 100000
  | 0, l, _ => ⟨Nat.le_refl _, by simp [chunks]⟩
  | f + 1, l, h => by
    unfold chunks
    split
    · exact ⟨by simp, by simp⟩
    · obtain ⟨h1, h2⟩ := chunks_le f (l.drop 32) fun n hn => h n (List.mem_of_mem_drop hn)
      refine ⟨by simp; omega, fun x hx => ?_⟩
      rcases List.mem_cons.1 hx with rfl | hx
      · exact Nat.le_trans (jw_le 32 60 (by simp; omega) (itoas fun n hn => h n (List.mem_of_mem_take hn))) (by decide)
      · exact h2 x hx
theorem bN_num (b : Bool) : Num (bN b) := num_bool b
theorem env_le {w : Bs} {e : EnvV} (g : GoodE e) (hp : e.points.length ≤ 16) (hw : w.length ≤ 60) : (envL w e).length ≤ 100000 := by
  obtain ⟨g1, g2⟩ := g
  refine Nat.le_trans (jw_le 24 60 (by simp; omega) ?_) (by decide)
  intro x hx
  rcases List.mem_append.1 hx with hx | hx
  · refine mem2 hw (itoas ?_) x hx
    intro n hn
    simp only [List.mem_cons, List.not_mem_nil, or_false] at hn
    rcases hn with rfl | rfl | rfl | rfl | rfl | rfl | rfl
    · exact bN_num _
    · exact bN_num _
    · exact g1 _ (by simp)
    · exact g1 _ (by simp)
    · exact bN_num _
    · exact g1 _ (by simp)
    · exact g1 _ (by simp)
  · exact pairs_le g2 x hx
theorem flatMap_le {α : Type} {f : α → List Bs} {K : Nat} : ∀ {l : List α}, (∀ a ∈ l, (f a).length ≤ K) → (l.flatMap f).length ≤ l.length * K
  | [], _ => by simp
  | a :: r, h => by
    have h1 := h a (by simp)
    have h2 := flatMap_le (l := r) fun b hb => h b (List.mem_cons_of_mem _ hb)
    simp only [List.flatMap_cons, List.length_append, List.length_cons]
    rw [Nat.add_mul, Nat.one_mul]
    omega
theorem envB_pts {e : EnvV} {lo hi : Int} (h : envB e lo hi = true) : e.points.length ≤ 16 := by
  simp only [envB, Bool.and_eq_true, decide_eq_true_eq] at h
  exact h.1.1.1.1
theorem valid_pts {s : SongV} (h : validS s = true) : ∀ i ∈ s.insts, i.volume.points.length ≤ 16 ∧ i.panning.points.length ≤ 16 ∧ i.pitch.points.length ≤ 16 := by
  intro i hi
  simp only [validS, sndsB, Bool.and_eq_true, List.all_eq_true] at h
  have := (h.2.2 i hi).1
  simp only [insB, Bool.and_eq_true] at this
  obtain ⟨⟨⟨⟨⟨⟨⟨⟨⟨⟨_, e1⟩, e2⟩, e3⟩, _⟩, _⟩, _⟩, _⟩, _⟩, _⟩, _⟩ := this
  exact ⟨envB_pts e1, envB_pts e2, envB_pts e3⟩
theorem valid_pans {s : SongV} (h : validS s = true) : s.pans.length ≤ 16 := by
  have g := valid_good h
  simp only [validS, numsB, Bool.and_eq_true, decide_eq_true_eq] at h
  have h1 := h.1.2.1.2
  have := g.channels
  omega
theorem fmt_bound {s : SongV} (h : validS s = true) : (fmtL s).length ≤ 140000 ∧ ∀ x ∈ fmtL s, x.length ≤ 100000 := by
  have g := valid_good h
  have hp := valid_pans h
  have hpt := valid_pts h
  obtain ⟨c, hc⟩ := Int.eq_ofNat_of_zero_le (show 0 ≤ s.channels by have := g.channels; omega)
  have hc16 : s.channels.toNat ≤ 16 := by have := g.channels; omega
  have hI : ∀ i ∈ s.insts, GoodI i := g.insts.2
  constructor
  · unfold fmtL
    simp only [List.length_append]
    have h1 : (s.patterns.flatMap (patL s.channels.toNat)).length ≤ s.patterns.length * 65 := flatMap_le fun p hp => by
      have gp := g.patterns.2 p hp
      have := (rows_le hc16 p.rows.toNat p.cells).1
      simp only [patL, List.length_cons, this]
      have := gp.2.1; have := gp.1
      omega
    have h2 : (s.samples.flatMap smpL).length ≤ s.samples.length * 4099 := flatMap_le fun x hx => by
      have gx := g.samples.2 x hx
      have := (chunks_le x.data.length x.data gx.2.2.2.2).1
      have := gx.2.2.2.1
      simp only [smpL, List.length_cons]
      omega
    have h3 : (s.insts.flatMap insL).length ≤ s.insts.length * 5 := flatMap_le fun x hx => by simp [insL]
    have h4 : (headL s).length = 7 := rfl
    have := g.patterns.1; have := g.samples.1; have := g.insts.1
    simp only [List.length_cons, List.length_nil]
    omega
  · intro x hx
    unfold fmtL at hx
    rcases List.mem_append.1 hx with hx | hx
    · unfold headL at hx
      simp only [List.mem_cons, List.not_mem_nil, or_false] at hx
      have e7 : (7 : Nat) ≤ 60 := by decide
      rcases hx with rfl | rfl | rfl | rfl | rfl | rfl | rfl
      · decide
      · exact Nat.le_trans (jw_le 2 60 (by simp) (mem2 (by decide) (mem2 (quoted_le g.name) mem0))) (by decide)
      · exact Nat.le_trans (jw_le 2 60 (by simp) (mem2 (by decide) (mem2 (dname_le _) mem0))) (by decide)
      · exact Nat.le_trans (jw_le 2 60 (by simp) (mem2 (by decide) (itoas fun n hn => by rw [List.mem_singleton.1 hn]; exact ⟨by have := g.channels; omega, by have := g.channels; omega⟩))) (by decide)
      · exact Nat.le_trans (jw_le 6 60 (by simp) (mem2 (by decide) (itoas fun n hn => by
          simp only [List.mem_cons, List.not_mem_nil, or_false] at hn
          rcases hn with rfl | rfl | rfl | rfl | rfl
          · exact g.nums _ (by simp)
          · exact g.nums _ (by simp)
          · exact g.nums _ (by simp)
          · exact bN_num _
          · exact g.nums _ (by simp)))) (by decide)
      · exact Nat.le_trans (jw_le 17 60 (by simp; omega) (mem2 (by decide) (itoas g.pans))) (by decide)
      · refine Nat.le_trans (jw_le 65 60 (by have := g.orders.1; simp; omega) (mem2 (by decide) fun w hw => ?_)) (by decide)
        obtain ⟨o, ho, rfl⟩ := List.mem_map.1 hw
        exact ord_le (g.orders.2 o ho)
    rcases List.mem_append.1 hx with hx | hx
    · obtain ⟨p, hp, hx⟩ := List.mem_flatMap.1 hx
      have gp := g.patterns.2 p hp
      rcases List.mem_cons.1 hx with rfl | hx
      · exact Nat.le_trans (jw_le 2 60 (by simp) (mem2 (by decide) (itoas fun n hn => by rw [List.mem_singleton.1 hn]; exact ⟨by have := gp.1; omega, by have := gp.2.1; omega⟩))) (by decide)
      · exact (rows_le hc16 _ _).2 x hx
    rcases List.mem_append.1 hx with hx | hx
    · obtain ⟨p, hp, hx⟩ := List.mem_flatMap.1 hx
      have gp := g.samples.2 p hp
      unfold smpL at hx
      rcases List.mem_cons.1 hx with rfl | hx
      · exact Nat.le_trans (jw_le 7 60 (by simp) (mem2 (by decide) (mem2 (quoted_le gp.1) (itoas gp.2.1)))) (by decide)
      rcases List.mem_cons.1 hx with rfl | hx
      · exact Nat.le_trans (jw_le 7 60 (by simp) (mem2 (by decide) (itoas gp.2.2.1))) (by decide)
      rcases List.mem_cons.1 hx with rfl | hx
      · exact Nat.le_trans (jw_le 2 60 (by simp) (mem2 (by decide) (itoas fun n hn => by rw [List.mem_singleton.1 hn]; exact ⟨by omega, by have := gp.2.2.2.1; omega⟩))) (by decide)
      · exact (chunks_le _ _ gp.2.2.2.2).2 x hx
    rcases List.mem_append.1 hx with hx | hx
    · obtain ⟨p, hp, hx⟩ := List.mem_flatMap.1 hx
      obtain ⟨g1, g2, g3, g4, g5, g6, g7⟩ := hI p hp
      obtain ⟨p1, p2, p3⟩ := hpt p hp
      unfold insL at hx
      simp only [List.mem_cons, List.not_mem_nil, or_false] at hx
      rcases hx with rfl | rfl | rfl | rfl | rfl
      · exact Nat.le_trans (jw_le 9 60 (by simp) (mem2 (by decide) (mem2 (quoted_le g1) (itoas g2)))) (by decide)
      · exact Nat.le_trans (jw_le 121 60 (by simp; omega) (mem2 (by decide) (pairs_le g4))) (by decide)
      · exact env_le g5 p1 (by decide)
      · exact env_le g6 p2 (by decide)
      · exact env_le g7 p3 (by decide)
    · rw [List.mem_singleton.1 hx]; decide
theorem flat_bound {s : SongV} (h : validS s = true) : (flat (fmtL s)).length ≤ 100000000000 := by
  obtain ⟨h1, h2⟩ := fmt_bound h
  have h3 := flat_len h2
  have h4 := Nat.mul_le_mul_right (100000 + 1) h1
  omega
end Go.Tx

namespace Go.Tx
open Go.Lib
theorem lawL_append (c : Bs) (more : Nat → Nat) : ∀ (A B : List Bs) (k : Nat), lawL c more k (A ++ B) = lawL c more k A ++ lawL c more (k + A.length) B
  | [], B, k => by simp [lawL]
  | a :: A, B, k => by
    rw [List.cons_append, lawL, lawL, lawL_append c more A B (k + 1), List.length_cons]
    rw [show k + (A.length + 1) = k + 1 + A.length by omega]
    simp
theorem lawL_take (c : Bs) (more : Nat → Nat) (L : List Bs) {i : Nat} (h : i < L.length) : lawL c more 0 (L.take (i + 1)) = lawL c more 0 (L.take i) ++ ahead c (more i) ++ [L[i]] := by
  rw [List.take_succ_eq_append_getElem h, lawL_append, List.length_take, Nat.min_eq_left (by omega), Nat.zero_add, lawL, lawL]
  simp
theorem ahead_length (c : Bs) (m : Nat) : (ahead c m).length = m := by
  cases m <;> simp [ahead]
theorem ahead_get (c : Bs) (m : Nat) {j : Nat} (h : j < (ahead c m).length) : (ahead c m)[j] = if j = 0 then 35 :: c else [] := by
  cases m with
  | zero => simp [ahead] at h
  | succ k =>
    cases j with
    | zero => simp [ahead]
    | succ j => simp [ahead]
theorem ahead_take (c : Bs) (m : Nat) {j : Nat} (h : j < m) : (ahead c m).take (j + 1) = (ahead c m).take j ++ [if j = 0 then 35 :: c else []] := by
  have h' : j < (ahead c m).length := by rw [ahead_length]; exact h
  rw [List.take_succ_eq_append_getElem h', ahead_get c m h']
theorem flat_len_append (a b : List Bs) : (flat (a ++ b)).length = (flat a).length + (flat b).length := by rw [flat_append, List.length_append]
theorem flat_one (x : Bs) : flat [x] = x ++ [10] := by simp [flat]
theorem flat_replicate (k : Nat) : (flat (List.replicate k [])).length = k := by
  induction k with
  | zero => rfl
  | succ k ih => rw [List.replicate_succ, flat_cons]; simp [ih]
theorem flat_ahead_le (c : Bs) (m : Nat) (hc : c.length ≤ 100) (hm : m ≤ 100) : (flat (ahead c m)).length ≤ 201 := by
  cases m with
  | zero => simp [ahead, flat]
  | succ k =>
    rw [ahead, flat_cons, List.length_append, List.length_append, flat_replicate]
    simp only [List.length_cons, List.length_nil]
    omega
theorem flat_take_len (L : List Bs) (k : Nat) : (flat (L.take k)).length ≤ (flat L).length := flat_take_le L k
theorem lines_le : ∀ L : List Bs, L.length ≤ (flat L).length
  | [] => Nat.le_refl _
  | x :: r => by
    have := lines_le r
    rw [flat_cons, List.length_append, List.length_append]
    simp only [List.length_cons, List.length_nil]
    omega
theorem law_len (c : Bs) (more : Nat → Nat) (hc : c.length ≤ 100) (hm : ∀ k, more k ≤ 100) : ∀ (L : List Bs) (k : Nat), (flat (lawL c more k L)).length ≤ (flat L).length + 201 * L.length
  | [], k => by simp [lawL]
  | x :: r, k => by
    have ih := law_len c more hc hm r (k + 1)
    have ha := flat_ahead_le c (more k) hc (hm k)
    rw [lawL, flat_len_append, flat_cons, flat_cons]
    simp only [List.length_append, List.length_cons, List.length_nil]
    omega
def mget (k : Int) : List (Int × Int) → Option Int
  | [] => none
  | (a, v) :: r => if k = a then some v else mget k r
def mset (k v : Int) : List (Int × Int) → List (Int × Int)
  | [] => []
  | (a, u) :: r => if k = a then (k, v) :: r else (a, u) :: mset k v r
def mval (ms : List (Int × Int)) (k : Int) : Int := (mget k ms).getD 0
theorem mget_mem : ∀ {ms : List (Int × Int)} {k v : Int}, mget k ms = some v → ∃ p ∈ ms, p.2 = v
  | [], k, v, h => by simp [mget] at h
  | (a, u) :: r, k, v, h => by
    rw [mget] at h
    split at h
    · cases h; exact ⟨_, List.mem_cons_self .., rfl⟩
    · obtain ⟨p, hp, e⟩ := mget_mem h
      exact ⟨p, List.mem_cons_of_mem _ hp, e⟩
theorem mset_mem : ∀ {ms : List (Int × Int)} {k v : Int} {p : Int × Int}, p ∈ mset k v ms → p ∈ ms ∨ p.2 = v
  | [], k, v, p, h => by simp [mset] at h
  | (a, u) :: r, k, v, p, h => by
    rw [mset] at h
    split at h
    · rcases List.mem_cons.1 h with rfl | h
      · exact .inr rfl
      · exact .inl (List.mem_cons_of_mem _ h)
    · rcases List.mem_cons.1 h with rfl | h
      · exact .inl (List.mem_cons_self ..)
      · rcases mset_mem h with h | h
        · exact .inl (List.mem_cons_of_mem _ h)
        · exact .inr h
theorem mval_le {ms : List (Int × Int)} {B : Int} (hB : 0 ≤ B) (h : ∀ p ∈ ms, 0 ≤ p.2 ∧ p.2 ≤ B) (k : Int) : 0 ≤ mval ms k ∧ mval ms k ≤ B := by
  unfold mval
  cases hg : mget k ms with
  | none => exact ⟨Int.le_refl _, hB⟩
  | some v =>
    obtain ⟨p, hp, rfl⟩ := mget_mem hg
    exact h p hp
end Go.Tx

namespace Go.Proofs.YtgjnimemofmncaaGreatDoor
open Go.Abs
theorem sz3 : szT Tryz.prog 3 = some 1 := by kernel_rfl
theorem ag3 : isAggT Tryz.prog 3 = some false := by kernel_rfl
theorem ze3 : zeroT Tryz.prog 3 = some (.int IntKind.i64 (0)) := by kernel_rfl
theorem in3 : Tryz.prog.info? 3 = some Tryz.t3 := by kernel_rfl
theorem sz4 : szT Tryz.prog 4 = some 1 := by kernel_rfl
theorem ag4 : isAggT Tryz.prog 4 = some false := by kernel_rfl
theorem sz5 : szT Tryz.prog 5 = some 1 := by kernel_rfl
theorem ze5 : zeroT Tryz.prog 5 = some (.int IntKind.u8 (0)) := by kernel_rfl
theorem in5 : Tryz.prog.info? 5 = some Tryz.t5 := by kernel_rfl
theorem sz9 : szT Tryz.prog 9 = some 1 := by kernel_rfl
theorem ag9 : isAggT Tryz.prog 9 = some false := by kernel_rfl
theorem ze9 : zeroT Tryz.prog 9 = some (.str []) := by kernel_rfl
theorem in9 : Tryz.prog.info? 9 = some Tryz.t9 := by kernel_rfl
theorem sz21 : szT Tryz.prog 21 = some 1 := by kernel_rfl
theorem ag21 : isAggT Tryz.prog 21 = some false := by kernel_rfl
theorem sz22 : szT Tryz.prog 22 = some 1 := by kernel_rfl
theorem ag22 : isAggT Tryz.prog 22 = some false := by kernel_rfl
theorem el22 : elemT Tryz.prog 22 = some 3 := by kernel_rfl
theorem sz23 : szT Tryz.prog 23 = some 1 := by kernel_rfl
theorem ag23 : isAggT Tryz.prog 23 = some false := by kernel_rfl
theorem el23 : elemT Tryz.prog 23 = some 46 := by kernel_rfl
theorem sz24 : szT Tryz.prog 24 = some 1 := by kernel_rfl
theorem ag24 : isAggT Tryz.prog 24 = some false := by kernel_rfl
theorem el24 : elemT Tryz.prog 24 = some 48 := by kernel_rfl
theorem sz25 : szT Tryz.prog 25 = some 1 := by kernel_rfl
theorem ag25 : isAggT Tryz.prog 25 = some false := by kernel_rfl
theorem el25 : elemT Tryz.prog 25 = some 54 := by kernel_rfl
theorem sz27 : szT Tryz.prog 27 = some 13 := by kernel_rfl
theorem ag27 : isAggT Tryz.prog 27 = some true := by kernel_rfl
theorem ze27 : zeroT Tryz.prog 27 = some (.agg [.str [], .int IntKind.i64 (0), .int IntKind.i64 (0), .nils, .int IntKind.i64 (0), .int IntKind.i64 (0), .int IntKind.i64 (0), .int IntKind.i64 (0), .bool false, .nils, .nils, .nils, .nils]) := by kernel_rfl
theorem fi27x0 : fieldT Tryz.prog 27 0 = some (9, 0) := by kernel_rfl
theorem fi27x1 : fieldT Tryz.prog 27 1 = some (3, 1) := by kernel_rfl
theorem fi27x2 : fieldT Tryz.prog 27 2 = some (3, 2) := by kernel_rfl
theorem fi27x3 : fieldT Tryz.prog 27 3 = some (22, 3) := by kernel_rfl
theorem fi27x4 : fieldT Tryz.prog 27 4 = some (3, 4) := by kernel_rfl
theorem fi27x5 : fieldT Tryz.prog 27 5 = some (3, 5) := by kernel_rfl
theorem fi27x6 : fieldT Tryz.prog 27 6 = some (3, 6) := by kernel_rfl
theorem fi27x7 : fieldT Tryz.prog 27 7 = some (3, 7) := by kernel_rfl
theorem fi27x8 : fieldT Tryz.prog 27 8 = some (4, 8) := by kernel_rfl
theorem fi27x9 : fieldT Tryz.prog 27 9 = some (22, 9) := by kernel_rfl
theorem fi27x10 : fieldT Tryz.prog 27 10 = some (23, 10) := by kernel_rfl
theorem fi27x11 : fieldT Tryz.prog 27 11 = some (24, 11) := by kernel_rfl
theorem fi27x12 : fieldT Tryz.prog 27 12 = some (25, 12) := by kernel_rfl
theorem po27 : placesOk Tryz.prog 27 = true := by kernel_rfl
theorem sz30 : szT Tryz.prog 30 = some 1 := by kernel_rfl
theorem ag30 : isAggT Tryz.prog 30 = some false := by kernel_rfl
theorem mp34 : mapT Tryz.prog 34 = some (3, 3) := by kernel_rfl
theorem sz35 : szT Tryz.prog 35 = some 1 := by kernel_rfl
theorem ag35 : isAggT Tryz.prog 35 = some false := by kernel_rfl
theorem el35 : elemT Tryz.prog 35 = some 9 := by kernel_rfl
theorem sz37 : szT Tryz.prog 37 = some 1 := by kernel_rfl
theorem ag37 : isAggT Tryz.prog 37 = some false := by kernel_rfl
theorem el37 : elemT Tryz.prog 37 = some 5 := by kernel_rfl
theorem sz39 : szT Tryz.prog 39 = some 2 := by kernel_rfl
theorem ag39 : isAggT Tryz.prog 39 = some true := by kernel_rfl
theorem ze39 : zeroT Tryz.prog 39 = some (.agg [.int IntKind.i64 (0), .int IntKind.i64 (0)]) := by kernel_rfl
theorem pl39x0 : placeA Tryz.prog 39 0 = some (0, 1) := by kernel_rfl
theorem pl39x1 : placeA Tryz.prog 39 1 = some (1, 1) := by kernel_rfl
theorem po39 : placesOk Tryz.prog 39 = true := by kernel_rfl
theorem sz44 : szT Tryz.prog 44 = some 1 := by kernel_rfl
theorem ag44 : isAggT Tryz.prog 44 = some false := by kernel_rfl
theorem el44 : elemT Tryz.prog 44 = some 90 := by kernel_rfl
theorem sz46 : szT Tryz.prog 46 = some 2 := by kernel_rfl
theorem ag46 : isAggT Tryz.prog 46 = some true := by kernel_rfl
theorem ze46 : zeroT Tryz.prog 46 = some (.agg [.int IntKind.i64 (0), .nils]) := by kernel_rfl
theorem fi46x0 : fieldT Tryz.prog 46 0 = some (3, 0) := by kernel_rfl
theorem pl46x0 : placeA Tryz.prog 46 0 = some (0, 1) := by kernel_rfl
theorem fi46x1 : fieldT Tryz.prog 46 1 = some (44, 1) := by kernel_rfl
theorem po46 : placesOk Tryz.prog 46 = true := by kernel_rfl
theorem in46 : Tryz.prog.info? 46 = some Tryz.t46 := by kernel_rfl
theorem sz48 : szT Tryz.prog 48 = some 13 := by kernel_rfl
theorem ag48 : isAggT Tryz.prog 48 = some true := by kernel_rfl
theorem ze48 : zeroT Tryz.prog 48 = some (.agg [.str [], .nils, .int IntKind.i64 (0), .int IntKind.i64 (0), .int IntKind.i64 (0), .int IntKind.i64 (0), .int IntKind.i64 (0), .int IntKind.i64 (0), .int IntKind.i64 (0), .int IntKind.i64 (0), .int IntKind.i64 (0), .int IntKind.i64 (0), .int IntKind.i64 (0)]) := by kernel_rfl
theorem fi48x0 : fieldT Tryz.prog 48 0 = some (9, 0) := by kernel_rfl
theorem pl48x0 : placeA Tryz.prog 48 0 = some (0, 1) := by kernel_rfl
theorem fi48x1 : fieldT Tryz.prog 48 1 = some (22, 1) := by kernel_rfl
theorem fi48x2 : fieldT Tryz.prog 48 2 = some (3, 2) := by kernel_rfl
theorem pl48x2 : placeA Tryz.prog 48 2 = some (2, 1) := by kernel_rfl
theorem fi48x3 : fieldT Tryz.prog 48 3 = some (3, 3) := by kernel_rfl
theorem pl48x3 : placeA Tryz.prog 48 3 = some (3, 1) := by kernel_rfl
theorem fi48x4 : fieldT Tryz.prog 48 4 = some (3, 4) := by kernel_rfl
theorem pl48x4 : placeA Tryz.prog 48 4 = some (4, 1) := by kernel_rfl
theorem fi48x5 : fieldT Tryz.prog 48 5 = some (3, 5) := by kernel_rfl
theorem pl48x5 : placeA Tryz.prog 48 5 = some (5, 1) := by kernel_rfl
theorem fi48x6 : fieldT Tryz.prog 48 6 = some (3, 6) := by kernel_rfl
theorem pl48x6 : placeA Tryz.prog 48 6 = some (6, 1) := by kernel_rfl
theorem fi48x7 : fieldT Tryz.prog 48 7 = some (3, 7) := by kernel_rfl
theorem fi48x8 : fieldT Tryz.prog 48 8 = some (3, 8) := by kernel_rfl
theorem fi48x9 : fieldT Tryz.prog 48 9 = some (3, 9) := by kernel_rfl
theorem fi48x10 : fieldT Tryz.prog 48 10 = some (3, 10) := by kernel_rfl
theorem fi48x11 : fieldT Tryz.prog 48 11 = some (3, 11) := by kernel_rfl
theorem fi48x12 : fieldT Tryz.prog 48 12 = some (3, 12) := by kernel_rfl
theorem po48 : placesOk Tryz.prog 48 = true := by kernel_rfl
theorem in48 : Tryz.prog.info? 48 = some Tryz.t48 := by kernel_rfl
theorem sz49 : szT Tryz.prog 49 = some 1 := by kernel_rfl
theorem ag49 : isAggT Tryz.prog 49 = some false := by kernel_rfl
theorem el49 : elemT Tryz.prog 49 = some 95 := by kernel_rfl
theorem sz50 : szT Tryz.prog 50 = some 1 := by kernel_rfl
theorem ag50 : isAggT Tryz.prog 50 = some false := by kernel_rfl
theorem el50 : elemT Tryz.prog 50 = some 138 := by kernel_rfl
theorem sz52 : szT Tryz.prog 52 = some 8 := by kernel_rfl
theorem ag52 : isAggT Tryz.prog 52 = some true := by kernel_rfl
theorem ze52 : zeroT Tryz.prog 52 = some (.agg [.bool false, .nils, .bool false, .int IntKind.i64 (0), .int IntKind.i64 (0), .bool false, .int IntKind.i64 (0), .int IntKind.i64 (0)]) := by kernel_rfl
theorem fi52x0 : fieldT Tryz.prog 52 0 = some (4, 0) := by kernel_rfl
theorem pl52x0 : placeA Tryz.prog 52 0 = some (0, 1) := by kernel_rfl
theorem fi52x1 : fieldT Tryz.prog 52 1 = some (50, 1) := by kernel_rfl
theorem fi52x2 : fieldT Tryz.prog 52 2 = some (4, 2) := by kernel_rfl
theorem pl52x2 : placeA Tryz.prog 52 2 = some (2, 1) := by kernel_rfl
theorem fi52x3 : fieldT Tryz.prog 52 3 = some (3, 3) := by kernel_rfl
theorem pl52x3 : placeA Tryz.prog 52 3 = some (3, 1) := by kernel_rfl
theorem fi52x4 : fieldT Tryz.prog 52 4 = some (3, 4) := by kernel_rfl
theorem pl52x4 : placeA Tryz.prog 52 4 = some (4, 1) := by kernel_rfl
theorem fi52x5 : fieldT Tryz.prog 52 5 = some (4, 5) := by kernel_rfl
theorem pl52x5 : placeA Tryz.prog 52 5 = some (5, 1) := by kernel_rfl
theorem fi52x6 : fieldT Tryz.prog 52 6 = some (3, 6) := by kernel_rfl
theorem pl52x6 : placeA Tryz.prog 52 6 = some (6, 1) := by kernel_rfl
theorem fi52x7 : fieldT Tryz.prog 52 7 = some (3, 7) := by kernel_rfl
theorem pl52x7 : placeA Tryz.prog 52 7 = some (7, 1) := by kernel_rfl
theorem po52 : placesOk Tryz.prog 52 = true := by kernel_rfl
theorem sz54 : szT Tryz.prog 54 = some 33 := by kernel_rfl
theorem ag54 : isAggT Tryz.prog 54 = some true := by kernel_rfl
theorem ze54 : zeroT Tryz.prog 54 = some (.agg [.str [], .nils, .bool false, .nils, .bool false, .int IntKind.i64 (0), .int IntKind.i64 (0), .bool false, .int IntKind.i64 (0), .int IntKind.i64 (0), .bool false, .nils, .bool false, .int IntKind.i64 (0), .int IntKind.i64 (0), .bool false, .int IntKind.i64 (0), .int IntKind.i64 (0), .bool false, .nils, .bool false, .int IntKind.i64 (0), .int IntKind.i64 (0), .bool false, .int IntKind.i64 (0), .int IntKind.i64 (0), .int IntKind.i64 (0), .int IntKind.i64 (0), .int IntKind.i64 (0), .int IntKind.i64 (0), .int IntKind.i64 (0), .int IntKind.i64 (0), .int IntKind.i64 (0)]) := by kernel_rfl
theorem fi54x0 : fieldT Tryz.prog 54 0 = some (9, 0) := by kernel_rfl
theorem pl54x0 : placeA Tryz.prog 54 0 = some (0, 1) := by kernel_rfl
theorem fi54x1 : fieldT Tryz.prog 54 1 = some (49, 1) := by kernel_rfl
theorem fi54x2 : fieldT Tryz.prog 54 2 = some (52, 2) := by kernel_rfl
theorem fi54x3 : fieldT Tryz.prog 54 3 = some (52, 10) := by kernel_rfl
theorem fi54x4 : fieldT Tryz.prog 54 4 = some (52, 18) := by kernel_rfl
theorem fi54x5 : fieldT Tryz.prog 54 5 = some (3, 26) := by kernel_rfl
theorem pl54x5 : placeA Tryz.prog 54 5 = some (26, 1) := by kernel_rfl
theorem fi54x6 : fieldT Tryz.prog 54 6 = some (3, 27) := by kernel_rfl
theorem pl54x6 : placeA Tryz.prog 54 6 = some (27, 1) := by kernel_rfl
theorem fi54x7 : fieldT Tryz.prog 54 7 = some (3, 28) := by kernel_rfl
theorem pl54x7 : placeA Tryz.prog 54 7 = some (28, 1) := by kernel_rfl
theorem fi54x8 : fieldT Tryz.prog 54 8 = some (3, 29) := by kernel_rfl
theorem pl54x8 : placeA Tryz.prog 54 8 = some (29, 1) := by kernel_rfl
theorem fi54x9 : fieldT Tryz.prog 54 9 = some (3, 30) := by kernel_rfl
theorem pl54x9 : placeA Tryz.prog 54 9 = some (30, 1) := by kernel_rfl
theorem fi54x10 : fieldT Tryz.prog 54 10 = some (3, 31) := by kernel_rfl
theorem pl54x10 : placeA Tryz.prog 54 10 = some (31, 1) := by kernel_rfl
theorem fi54x11 : fieldT Tryz.prog 54 11 = some (3, 32) := by kernel_rfl
theorem pl54x11 : placeA Tryz.prog 54 11 = some (32, 1) := by kernel_rfl
theorem po54 : placesOk Tryz.prog 54 = true := by kernel_rfl
theorem in54 : Tryz.prog.info? 54 = some Tryz.t54 := by kernel_rfl
theorem sz55 : szT Tryz.prog 55 = some 1 := by kernel_rfl
theorem ag55 : isAggT Tryz.prog 55 = some false := by kernel_rfl
theorem sz57 : szT Tryz.prog 57 = some 2 := by kernel_rfl
theorem fi57x0 : fieldT Tryz.prog 57 0 = some (55, 0) := by kernel_rfl
theorem fi57x1 : fieldT Tryz.prog 57 1 = some (37, 1) := by kernel_rfl
theorem in57 : Tryz.prog.info? 57 = some Tryz.t57 := by kernel_rfl
theorem ze59 : zeroT Tryz.prog 59 = some (.agg [.nilp, .nils]) := by kernel_rfl
theorem fi59x0 : fieldT Tryz.prog 59 0 = some (57, 0) := by kernel_rfl
theorem sz68 : szT Tryz.prog 68 = some 2 := by kernel_rfl
theorem ze68 : zeroT Tryz.prog 68 = some (.agg [.int IntKind.i64 (0), .int IntKind.i64 (0)]) := by kernel_rfl
theorem fi68x0 : fieldT Tryz.prog 68 0 = some (39, 0) := by kernel_rfl
theorem pl68x0 : placeA Tryz.prog 68 0 = some (0, 2) := by kernel_rfl
theorem po68 : placesOk Tryz.prog 68 = true := by kernel_rfl
theorem sz72 : szT Tryz.prog 72 = some 2 := by kernel_rfl
theorem ze72 : zeroT Tryz.prog 72 = some (.agg [.nils, .int IntKind.i64 (0)]) := by kernel_rfl
theorem fi72x0 : fieldT Tryz.prog 72 0 = some (35, 0) := by kernel_rfl
theorem pl72x0 : placeA Tryz.prog 72 0 = some (0, 1) := by kernel_rfl
theorem fi72x1 : fieldT Tryz.prog 72 1 = some (3, 1) := by kernel_rfl
theorem po72 : placesOk Tryz.prog 72 = true := by kernel_rfl
theorem ze74 : zeroT Tryz.prog 74 = some (.agg [.nils, .int IntKind.i64 (0), .str [], .int IntKind.i64 (0), .int IntKind.i64 (0), .nils, .int IntKind.i64 (0), .int IntKind.i64 (0), .int IntKind.i64 (0), .int IntKind.i64 (0), .bool false, .nils, .nils, .nils, .nils]) := by kernel_rfl
theorem fi74x0 : fieldT Tryz.prog 74 0 = some (72, 0) := by kernel_rfl
theorem pl74x0 : placeA Tryz.prog 74 0 = some (0, 2) := by kernel_rfl
theorem fi74x1 : fieldT Tryz.prog 74 1 = some (27, 2) := by kernel_rfl
theorem po74 : placesOk Tryz.prog 74 = true := by kernel_rfl
theorem sz82 : szT Tryz.prog 82 = some 29 := by kernel_rfl
theorem ag82 : isAggT Tryz.prog 82 = some true := by kernel_rfl
theorem ze82 : zeroT Tryz.prog 82 = some (.agg [.str [], .int IntKind.i64 (0), .int IntKind.i64 (0), .int IntKind.i64 (0), .int IntKind.i64 (0), .int IntKind.i64 (0), .bool false, .bool false, .bool false, .int IntKind.i64 (0), .int IntKind.i64 (0), .int IntKind.i64 (0), .bool false, .bool false, .bool false, .bool false, .int IntKind.i64 (0), .bool false, .int IntKind.i64 (0), .bool false, .bool false, .int IntKind.i64 (0), .bool false, .bool false, .bool false, .bool false, .bool false, .bool false, .bool false]) := by kernel_rfl
theorem fi82x0 : fieldT Tryz.prog 82 0 = some (9, 0) := by kernel_rfl
theorem fi82x1 : fieldT Tryz.prog 82 1 = some (3, 1) := by kernel_rfl
theorem fi82x2 : fieldT Tryz.prog 82 2 = some (3, 2) := by kernel_rfl
theorem fi82x3 : fieldT Tryz.prog 82 3 = some (3, 3) := by kernel_rfl
theorem fi82x4 : fieldT Tryz.prog 82 4 = some (3, 4) := by kernel_rfl
theorem fi82x5 : fieldT Tryz.prog 82 5 = some (3, 5) := by kernel_rfl
theorem fi82x6 : fieldT Tryz.prog 82 6 = some (4, 6) := by kernel_rfl
theorem fi82x8 : fieldT Tryz.prog 82 8 = some (4, 8) := by kernel_rfl
theorem po82 : placesOk Tryz.prog 82 = true := by kernel_rfl
theorem sz90 : szT Tryz.prog 90 = some 6 := by kernel_rfl
theorem ag90 : isAggT Tryz.prog 90 = some true := by kernel_rfl
theorem ze90 : zeroT Tryz.prog 90 = some (.agg [.int IntKind.i64 (0), .int IntKind.i64 (0), .int IntKind.i64 (0), .int IntKind.i64 (0), .int IntKind.i64 (0), .int IntKind.i64 (0)]) := by kernel_rfl
theorem fi90x0 : fieldT Tryz.prog 90 0 = some (3, 0) := by kernel_rfl
theorem fi90x1 : fieldT Tryz.prog 90 1 = some (3, 1) := by kernel_rfl
theorem fi90x2 : fieldT Tryz.prog 90 2 = some (3, 2) := by kernel_rfl
theorem fi90x3 : fieldT Tryz.prog 90 3 = some (3, 3) := by kernel_rfl
theorem fi90x4 : fieldT Tryz.prog 90 4 = some (3, 4) := by kernel_rfl
theorem fi90x5 : fieldT Tryz.prog 90 5 = some (3, 5) := by kernel_rfl
theorem po90 : placesOk Tryz.prog 90 = true := by kernel_rfl
theorem in90 : Tryz.prog.info? 90 = some Tryz.t90 := by kernel_rfl
theorem sz95 : szT Tryz.prog 95 = some 2 := by kernel_rfl
theorem ag95 : isAggT Tryz.prog 95 = some true := by kernel_rfl
theorem ze95 : zeroT Tryz.prog 95 = some (.agg [.int IntKind.i64 (0), .int IntKind.i64 (0)]) := by kernel_rfl
theorem fi95x0 : fieldT Tryz.prog 95 0 = some (3, 0) := by kernel_rfl
theorem pl95x0 : placeA Tryz.prog 95 0 = some (0, 1) := by kernel_rfl
theorem fi95x1 : fieldT Tryz.prog 95 1 = some (3, 1) := by kernel_rfl
theorem pl95x1 : placeA Tryz.prog 95 1 = some (1, 1) := by kernel_rfl
theorem po95 : placesOk Tryz.prog 95 = true := by kernel_rfl
theorem in95 : Tryz.prog.info? 95 = some Tryz.t95 := by kernel_rfl
theorem sz112 : szT Tryz.prog 112 = some 1 := by kernel_rfl
theorem ag112 : isAggT Tryz.prog 112 = some false := by kernel_rfl
theorem sz113 : szT Tryz.prog 113 = some 2 := by kernel_rfl
theorem ze113 : zeroT Tryz.prog 113 = some (.agg [.str [], .nilf]) := by kernel_rfl
theorem fi113x0 : fieldT Tryz.prog 113 0 = some (9, 0) := by kernel_rfl
theorem pl113x0 : placeA Tryz.prog 113 0 = some (0, 1) := by kernel_rfl
theorem fi113x1 : fieldT Tryz.prog 113 1 = some (112, 1) := by kernel_rfl
theorem pl113x1 : placeA Tryz.prog 113 1 = some (1, 1) := by kernel_rfl
theorem po113 : placesOk Tryz.prog 113 = true := by kernel_rfl
theorem el114 : elemT Tryz.prog 114 = some 113 := by kernel_rfl
theorem sz122 : szT Tryz.prog 122 = some 42 := by kernel_rfl
theorem ag122 : isAggT Tryz.prog 122 = some true := by kernel_rfl
theorem ze122 : zeroT Tryz.prog 122 = some (.agg [.str [], .int IntKind.i64 (0), .int IntKind.i64 (0), .nils, .int IntKind.i64 (0), .int IntKind.i64 (0), .int IntKind.i64 (0), .int IntKind.i64 (0), .bool false, .nils, .nils, .nils, .nils, .str [], .int IntKind.i64 (0), .int IntKind.i64 (0), .int IntKind.i64 (0), .int IntKind.i64 (0), .int IntKind.i64 (0), .bool false, .bool false, .bool false, .int IntKind.i64 (0), .int IntKind.i64 (0), .int IntKind.i64 (0), .bool false, .bool false, .bool false, .bool false, .int IntKind.i64 (0), .bool false, .int IntKind.i64 (0), .bool false, .bool false, .int IntKind.i64 (0), .bool false, .bool false, .bool false, .bool false, .bool false, .bool false, .bool false]) := by kernel_rfl
theorem fi122x0 : fieldT Tryz.prog 122 0 = some (27, 0) := by kernel_rfl
theorem pl122x0 : placeA Tryz.prog 122 0 = some (0, 13) := by kernel_rfl
theorem fi122x1 : fieldT Tryz.prog 122 1 = some (82, 13) := by kernel_rfl
theorem pl122x1 : placeA Tryz.prog 122 1 = some (13, 29) := by kernel_rfl
theorem po122 : placesOk Tryz.prog 122 = true := by kernel_rfl
theorem sz123 : szT Tryz.prog 123 = some 1 := by kernel_rfl
theorem ag123 : isAggT Tryz.prog 123 = some false := by kernel_rfl
theorem ze123 : zeroT Tryz.prog 123 = some (.nilf) := by kernel_rfl
theorem el124 : elemT Tryz.prog 124 = some 123 := by kernel_rfl
theorem sz126 : szT Tryz.prog 126 = some 3 := by kernel_rfl
theorem ag126 : isAggT Tryz.prog 126 = some true := by kernel_rfl
theorem ze126 : zeroT Tryz.prog 126 = some (.agg [.str [], .int IntKind.i64 (0), .int IntKind.i64 (0)]) := by kernel_rfl
theorem fi126x0 : fieldT Tryz.prog 126 0 = some (9, 0) := by kernel_rfl
theorem pl126x0 : placeA Tryz.prog 126 0 = some (0, 1) := by kernel_rfl
theorem fi126x1 : fieldT Tryz.prog 126 1 = some (3, 1) := by kernel_rfl
theorem pl126x1 : placeA Tryz.prog 126 1 = some (1, 1) := by kernel_rfl
theorem fi126x2 : fieldT Tryz.prog 126 2 = some (30, 2) := by kernel_rfl
theorem pl126x2 : placeA Tryz.prog 126 2 = some (2, 1) := by kernel_rfl
theorem po126 : placesOk Tryz.prog 126 = true := by kernel_rfl
theorem mp134 : mapT Tryz.prog 134 = some (3, 9) := by kernel_rfl
theorem sz138 : szT Tryz.prog 138 = some 2 := by kernel_rfl
theorem ag138 : isAggT Tryz.prog 138 = some true := by kernel_rfl
theorem ze138 : zeroT Tryz.prog 138 = some (.agg [.int IntKind.i64 (0), .int IntKind.i64 (0)]) := by kernel_rfl
theorem fi138x0 : fieldT Tryz.prog 138 0 = some (3, 0) := by kernel_rfl
theorem pl138x0 : placeA Tryz.prog 138 0 = some (0, 1) := by kernel_rfl
theorem fi138x1 : fieldT Tryz.prog 138 1 = some (3, 1) := by kernel_rfl
theorem pl138x1 : placeA Tryz.prog 138 1 = some (1, 1) := by kernel_rfl
theorem po138 : placesOk Tryz.prog 138 = true := by kernel_rfl
theorem in138 : Tryz.prog.info? 138 = some Tryz.t138 := by kernel_rfl
theorem sz163 : szT Tryz.prog 163 = some 1 := by kernel_rfl
theorem sz165 : szT Tryz.prog 165 = some 1 := by kernel_rfl
theorem fi165x1 : fieldT Tryz.prog 165 1 = some (163, 0) := by kernel_rfl
theorem sz167 : szT Tryz.prog 167 = some 2 := by kernel_rfl
theorem fi167x0 : fieldT Tryz.prog 167 0 = some (21, 0) := by kernel_rfl
theorem sz169 : szT Tryz.prog 169 = some 2 := by kernel_rfl
theorem fi169x1 : fieldT Tryz.prog 169 1 = some (167, 0) := by kernel_rfl
theorem sz171 : szT Tryz.prog 171 = some 3 := by kernel_rfl
theorem fi171x1 : fieldT Tryz.prog 171 1 = some (165, 0) := by kernel_rfl
theorem fi171x2 : fieldT Tryz.prog 171 2 = some (169, 1) := by kernel_rfl
theorem sz173 : szT Tryz.prog 173 = some 1 := by kernel_rfl
theorem ag173 : isAggT Tryz.prog 173 = some false := by kernel_rfl
theorem ze175 : zeroT Tryz.prog 175 = some (.agg [.int IntKind.u32 (0), .int IntKind.i32 (0), .int IntKind.u32 (0), .nili, .nils]) := by kernel_rfl
theorem fi175x0 : fieldT Tryz.prog 175 0 = some (171, 0) := by kernel_rfl
theorem fi175x1 : fieldT Tryz.prog 175 1 = some (173, 3) := by kernel_rfl
theorem fi175x2 : fieldT Tryz.prog 175 2 = some (35, 4) := by kernel_rfl
theorem pl175x2 : placeA Tryz.prog 175 2 = some (4, 1) := by kernel_rfl
theorem po175 : placesOk Tryz.prog 175 = true := by kernel_rfl
theorem sz222 : szT Tryz.prog 222 = some 256 := by kernel_rfl
theorem sz224 : szT Tryz.prog 224 = some 257 := by kernel_rfl
theorem fi224x0 : fieldT Tryz.prog 224 0 = some (222, 0) := by kernel_rfl
theorem fi224x1 : fieldT Tryz.prog 224 1 = some (35, 256) := by kernel_rfl
theorem pl224x1 : placeA Tryz.prog 224 1 = some (256, 1) := by kernel_rfl
theorem po224 : placesOk Tryz.prog 224 = true := by kernel_rfl
def ch12x6 : List Nat := [12, 13]
def pp12x6 : Plan := .op 0 <| .op 1 <| .op 2 <| .op 3 <| .op 4 <| .op 5 <| .op 6 <| .op 7 <| .op 8 <| .op 9 <| .op 10 <| .op 11 <| .step 12 [8] (.step 13 [2, 4, 6, 8, 11] (.done) (.done)) (.done)
def ch14x1 : List Nat := [4, 15, 17, 18]
def pp14x1 : Plan := .op 0 <| .op 1 <| .op 2 <| .op 3 <| .op 5 <| .op 6 <| .op 7 <| .op 8 <| .op 9 <| .op 10 <| .op 11 <| .op 12 <| .op 13 <| .op 14 <| .step 4 [2, 6, 8, 10, 12, 14] (.step 15 [2, 3] (.op 16 <| .step 17 [2, 3, 6, 8, 10, 12, 14] (.step 18 [2, 3, 6, 8, 10, 12, 14, 16] (.done) (.done)) (.done)) (.done)) (.step 15 [2, 3] (.op 16 <| .step 4 [2, 6, 8, 10, 12, 14, 16] (.step 17 [2, 3, 6, 8, 10, 12, 14] (.step 18 [2, 3, 6, 8, 10, 12, 14, 16] (.done) (.done)) (.done)) (.done)) (.done))
def ch15x1 : List Nat := [4, 19, 21, 22]
def pp15x1 : Plan := .op 0 <| .op 1 <| .op 2 <| .op 3 <| .op 5 <| .op 6 <| .op 7 <| .op 8 <| .op 9 <| .op 10 <| .op 11 <| .op 12 <| .op 13 <| .op 14 <| .op 15 <| .op 16 <| .op 17 <| .op 18 <| .step 4 [2, 6, 8, 10, 12, 14, 16, 18] (.step 19 [2, 3] (.op 20 <| .step 21 [2, 3, 6, 8, 10, 12, 14, 16, 18] (.step 22 [2, 3, 6, 8, 10, 12, 14, 16, 18, 20] (.done) (.done)) (.done)) (.done)) (.step 19 [2, 3] (.op 20 <| .step 4 [2, 6, 8, 10, 12, 14, 16, 18, 20] (.step 21 [2, 3, 6, 8, 10, 12, 14, 16, 18] (.step 22 [2, 3, 6, 8, 10, 12, 14, 16, 18, 20] (.done) (.done)) (.done)) (.done)) (.done))
def ch16x0 : List Nat := [6]
def pp16x0 : Plan := .op 0 <| .op 1 <| .op 2 <| .op 3 <| .op 4 <| .op 5 <| .step 6 [] (.done) (.done)
def ch18x1 : List Nat := [4, 10]
def pp18x1 : Plan := .op 0 <| .op 1 <| .op 2 <| .op 3 <| .op 5 <| .op 6 <| .op 7 <| .op 8 <| .op 9 <| .step 4 [8, 9] (.step 10 [3, 8] (.op 11 <| .done) (.done)) (.done)
def ch20x5 : List Nat := [3, 4]
def pp20x5 : Plan := .op 0 <| .op 1 <| .op 2 <| .step 3 [2] (.step 4 [] (.done) (.done)) (.done)
def ch21x10 : List Nat := [19, 23, 27, 31]
def pp21x10 : Plan := .op 0 <| .op 1 <| .op 2 <| .op 3 <| .op 4 <| .op 5 <| .op 6 <| .op 7 <| .op 8 <| .op 9 <| .op 10 <| .op 11 <| .op 12 <| .op 13 <| .op 14 <| .op 15 <| .op 16 <| .op 17 <| .op 18 <| .step 19 [] (.op 20 <| .op 21 <| .op 22 <| .step 23 [] (.op 24 <| .op 25 <| .op 26 <| .step 27 [] (.op 28 <| .op 29 <| .op 30 <| .step 31 [] (.done) (.done)) (.done)) (.done)) (.done)
def ch21x18 : List Nat := [8, 9, 10, 14]
def pp21x18 : Plan := .op 0 <| .op 1 <| .op 2 <| .op 3 <| .op 4 <| .op 5 <| .op 6 <| .op 7 <| .step 8 [5] (.step 9 [5] (.step 10 [] (.op 11 <| .op 12 <| .op 13 <| .step 14 [] (.done) (.done)) (.done)) (.done)) (.done)
def ch23x1 : List Nat := []
def pp23x1 : Plan := .op 0 <| .op 1 <| .op 2 <| .op 3 <| .op 4 <| .op 5 <| .op 6 <| .op 7 <| .op 8 <| .op 9 <| .done
def ch23x3 : List Nat := []
def pp23x3 : Plan := .op 0 <| .op 1 <| .op 2 <| .op 3 <| .op 4 <| .op 5 <| .op 6 <| .op 7 <| .op 8 <| .op 9 <| .op 10 <| .op 11 <| .done
def ch25x6 : List Nat := []
def pp25x6 : Plan := .op 0 <| .op 1 <| .op 2 <| .op 3 <| .op 4 <| .op 5 <| .op 6 <| .op 7 <| .op 8 <| .done
def ch26x6 : List Nat := []
def pp26x6 : Plan := .op 0 <| .op 1 <| .op 2 <| .op 3 <| .op 4 <| .op 5 <| .op 6 <| .op 7 <| .op 8 <| .op 9 <| .op 10 <| .op 11 <| .done
def ch26x12 : List Nat := []
def pp26x12 : Plan := .op 0 <| .op 1 <| .op 2 <| .op 3 <| .op 4 <| .op 5 <| .op 6 <| .op 7 <| .op 8 <| .op 9 <| .op 10 <| .op 11 <| .done
def ch26x18 : List Nat := []
def pp26x18 : Plan := .op 0 <| .op 1 <| .op 2 <| .op 3 <| .op 4 <| .op 5 <| .op 6 <| .op 7 <| .op 8 <| .op 9 <| .op 10 <| .op 11 <| .done
def ch27x8 : List Nat := []
def pp27x8 : Plan := .op 0 <| .op 1 <| .op 2 <| .op 3 <| .op 4 <| .op 5 <| .op 6 <| .op 7 <| .op 8 <| .done
def ch33x3 : List Nat := [0]
def pp33x3 : Plan := .op 1 <| .op 2 <| .step 0 [2] (.op 3 <| .op 4 <| .op 5 <| .op 6 <| .op 7 <| .op 8 <| .done) (.done)
def ch33x10 : List Nat := [12]
def pp33x10 : Plan := .op 0 <| .op 1 <| .op 2 <| .op 3 <| .op 4 <| .op 5 <| .op 6 <| .op 7 <| .op 8 <| .op 9 <| .op 10 <| .op 11 <| .step 12 [] (.done) (.done)
def ch33x12 : List Nat := [12]
def pp33x12 : Plan := .op 0 <| .op 1 <| .op 2 <| .op 3 <| .op 4 <| .op 5 <| .op 6 <| .op 7 <| .op 8 <| .op 9 <| .op 10 <| .op 11 <| .step 12 [] (.done) (.done)
def ch37x1 : List Nat := [1, 19, 21]
def pp37x1 : Plan := .op 0 <| .op 2 <| .op 3 <| .op 4 <| .op 5 <| .op 6 <| .op 7 <| .op 8 <| .op 9 <| .op 10 <| .op 11 <| .op 12 <| .op 13 <| .op 14 <| .op 15 <| .op 16 <| .op 17 <| .op 18 <| .step 1 [3, 4, 6, 7, 9, 11, 13, 14, 16, 18] (.step 19 [3, 6, 13] (.op 20 <| .step 21 [3, 4, 6, 7, 9, 11, 13, 14, 16, 18] (.op 22 <| .done) (.done)) (.done)) (.step 19 [3, 6, 13] (.op 20 <| .step 1 [3, 4, 6, 7, 9, 11, 13, 14, 16, 18, 20] (.step 21 [3, 4, 6, 7, 9, 11, 13, 14, 16, 18] (.op 22 <| .done) (.done)) (.done)) (.done))
def ch46x9 : List Nat := []
def pp46x9 : Plan := .op 0 <| .op 1 <| .op 2 <| .op 3 <| .op 4 <| .op 5 <| .op 6 <| .op 7 <| .done
def ch51x16 : List Nat := [7, 8, 12]
def pp51x16 : Plan := .op 0 <| .op 1 <| .op 2 <| .op 3 <| .op 4 <| .op 5 <| .op 6 <| .step 7 [5] (.step 8 [6] (.op 9 <| .op 10 <| .op 11 <| .step 12 [] (.done) (.done)) (.done)) (.done)
def ch52x2 : List Nat := [17, 18]
def pp52x2 : Plan := .op 0 <| .op 1 <| .op 2 <| .op 3 <| .op 4 <| .op 5 <| .op 6 <| .op 7 <| .op 8 <| .op 9 <| .op 10 <| .op 11 <| .op 12 <| .op 13 <| .op 14 <| .op 15 <| .op 16 <| .step 17 [3, 6, 9, 12, 15] (.step 18 [] (.done) (.done)) (.done)
def ch52x4 : List Nat := [19, 21, 23, 25, 27, 29]
def pp52x4 : Plan := .op 0 <| .op 1 <| .op 2 <| .op 3 <| .op 4 <| .op 5 <| .op 6 <| .op 7 <| .op 8 <| .op 9 <| .op 10 <| .op 11 <| .op 12 <| .op 13 <| .op 14 <| .op 15 <| .op 16 <| .op 17 <| .op 18 <| .step 19 [5, 8, 11, 14, 17] (.op 20 <| .step 21 [8, 11, 14, 17] (.op 22 <| .step 23 [11, 14, 17] (.op 24 <| .step 25 [14, 17] (.op 26 <| .step 27 [17] (.op 28 <| .step 29 [] (.done) (.done)) (.done)) (.done)) (.done)) (.done)) (.done)
def ch52x10 : List Nat := [4, 5, 7]
def pp52x10 : Plan := .op 0 <| .op 1 <| .op 2 <| .op 3 <| .step 4 [1] (.step 5 [] (.op 6 <| .step 7 [] (.done) (.done)) (.done)) (.done)
def ch52x11 : List Nat := [7, 8, 12]
def pp52x11 : Plan := .op 0 <| .op 1 <| .op 2 <| .op 3 <| .op 4 <| .op 5 <| .op 6 <| .step 7 [5] (.step 8 [6] (.op 9 <| .op 10 <| .op 11 <| .step 12 [] (.done) (.done)) (.done)) (.done)
def ch53x2 : List Nat := [23, 24]
def pp53x2 : Plan := .op 0 <| .op 1 <| .op 2 <| .op 3 <| .op 4 <| .op 5 <| .op 6 <| .op 7 <| .op 8 <| .op 9 <| .op 10 <| .op 11 <| .op 12 <| .op 13 <| .op 14 <| .op 15 <| .op 16 <| .op 17 <| .op 18 <| .op 19 <| .op 20 <| .op 21 <| .op 22 <| .step 23 [3, 6, 9, 12, 15, 18, 21] (.step 24 [] (.done) (.done)) (.done)
def ch53x12 : List Nat := [7, 8, 12]
def pp53x12 : Plan := .op 0 <| .op 1 <| .op 2 <| .op 3 <| .op 4 <| .op 5 <| .op 6 <| .step 7 [5] (.step 8 [6] (.op 9 <| .op 10 <| .op 11 <| .step 12 [] (.done) (.done)) (.done)) (.done)
def ch72x1 : List Nat := []
def pp72x1 : Plan := .op 0 <| .op 1 <| .op 2 <| .op 3 <| .op 4 <| .op 5 <| .op 6 <| .op 7 <| .op 8 <| .op 9 <| .op 10 <| .op 11 <| .op 12 <| .op 13 <| .op 14 <| .op 15 <| .op 16 <| .op 17 <| .done
def ch79x5 : List Nat := []
def pp79x5 : Plan := .op 0 <| .op 1 <| .op 2 <| .op 3 <| .op 4 <| .op 5 <| .op 6 <| .op 7 <| .op 8 <| .op 9 <| .op 10 <| .op 11 <| .done
def ch79x22 : List Nat := [9, 11]
def pp79x22 : Plan := .op 0 <| .op 1 <| .op 2 <| .op 3 <| .op 4 <| .op 5 <| .op 6 <| .op 7 <| .op 8 <| .step 9 [6] (.op 10 <| .step 11 [] (.done) (.done)) (.done)
def ch79x26 : List Nat := [8, 10]
def pp79x26 : Plan := .op 0 <| .op 1 <| .op 2 <| .op 3 <| .op 4 <| .op 5 <| .op 6 <| .op 7 <| .step 8 [5] (.op 9 <| .step 10 [] (.done) (.done)) (.done)
def ch81x3 : List Nat := [4, 9]
def pp81x3 : Plan := .op 0 <| .op 1 <| .op 2 <| .op 3 <| .op 5 <| .op 6 <| .op 7 <| .op 8 <| .step 4 [8] (.step 9 [3] (.op 10 <| .op 11 <| .done) (.done)) (.done)
def ch82x4 : List Nat := [4, 9, 20, 28, 29]
def pp82x4 : Plan := .op 0 <| .op 1 <| .op 2 <| .op 3 <| .op 5 <| .op 6 <| .op 7 <| .op 8 <| .op 10 <| .op 11 <| .op 12 <| .op 13 <| .op 14 <| .op 15 <| .op 16 <| .op 17 <| .op 18 <| .op 19 <| .op 21 <| .op 22 <| .op 23 <| .op 24 <| .op 25 <| .op 26 <| .step 4 [8, 12, 15, 19, 23, 26] (.step 9 [3, 12, 15, 19, 23, 26] (.step 20 [3, 8, 12, 15, 23, 26] (.op 27 <| .step 28 [3, 8, 12, 15, 19, 23, 26] (.step 29 [] (.done) (.done)) (.done)) (.step 28 [3, 8, 12, 15, 19, 23, 26] (.step 20 [3, 8, 12, 15, 23, 26] (.op 27 <| .step 29 [] (.done) (.done)) (.done)) (.done))) (.step 28 [3, 8, 12, 15, 19, 23, 26] (.step 9 [3, 12, 15, 19, 23, 26] (.step 20 [3, 8, 12, 15, 23, 26] (.op 27 <| .step 29 [] (.done) (.done)) (.done)) (.done)) (.done))) (.step 28 [3, 8, 12, 15, 19, 23, 26] (.step 4 [8, 12, 15, 19, 23, 26] (.step 9 [3, 12, 15, 19, 23, 26] (.step 20 [3, 8, 12, 15, 23, 26] (.op 27 <| .step 29 [] (.done) (.done)) (.done)) (.done)) (.done)) (.done))
def ch84x6 : List Nat := []
def pp84x6 : Plan := .op 0 <| .op 1 <| .op 2 <| .op 3 <| .op 4 <| .op 5 <| .op 6 <| .op 7 <| .op 8 <| .done
def ch85x6 : List Nat := []
def pp85x6 : Plan := .op 0 <| .op 1 <| .op 2 <| .op 3 <| .op 4 <| .op 5 <| .op 6 <| .op 7 <| .op 8 <| .done
def ch92x1 : List Nat := []
def pp92x1 : Plan := .op 0 <| .op 1 <| .op 2 <| .op 3 <| .op 4 <| .op 5 <| .op 6 <| .op 7 <| .op 8 <| .op 9 <| .op 10 <| .op 11 <| .op 12 <| .op 13 <| .op 14 <| .op 15 <| .op 16 <| .op 17 <| .op 18 <| .op 19 <| .op 20 <| .op 21 <| .done
def ch92x5 : List Nat := []
def pp92x5 : Plan := .op 0 <| .op 1 <| .op 2 <| .op 3 <| .op 4 <| .op 5 <| .op 6 <| .op 7 <| .done
def ch93x1 : List Nat := []
def pp93x1 : Plan := .op 0 <| .op 1 <| .op 2 <| .op 3 <| .op 4 <| .op 5 <| .done
def ch123x6 : List Nat := []
def pp123x6 : Plan := .op 0 <| .op 1 <| .op 2 <| .op 3 <| .op 4 <| .op 5 <| .op 6 <| .op 7 <| .op 8 <| .done
def ch131x1 : List Nat := []
def pp131x1 : Plan := .op 0 <| .op 1 <| .op 2 <| .op 3 <| .op 4 <| .op 5 <| .op 6 <| .op 7 <| .op 8 <| .done
def ch136x6 : List Nat := []
def pp136x6 : Plan := .op 0 <| .op 1 <| .op 2 <| .op 3 <| .op 4 <| .op 5 <| .op 6 <| .op 7 <| .op 8 <| .op 9 <| .op 10 <| .op 11 <| .op 12 <| .op 13 <| .op 14 <| .op 15 <| .op 16 <| .op 17 <| .op 18 <| .op 19 <| .op 20 <| .op 21 <| .op 22 <| .op 23 <| .op 24 <| .op 25 <| .op 26 <| .op 27 <| .op 28 <| .op 29 <| .op 30 <| .op 31 <| .op 32 <| .op 33 <| .op 34 <| .op 35 <| .op 36 <| .op 37 <| .op 38 <| .op 39 <| .done
def ch158x0 : List Nat := [5]
def pp158x0 : Plan := .op 0 <| .op 1 <| .op 2 <| .op 3 <| .op 4 <| .step 5 [] (.done) (.done)
def ch218x9 : List Nat := [13]
def pp218x9 : Plan := .op 0 <| .op 1 <| .op 2 <| .op 3 <| .op 4 <| .op 5 <| .op 6 <| .op 7 <| .op 8 <| .op 9 <| .op 10 <| .op 11 <| .op 12 <| .step 13 [] (.done) (.done)
def ch218x28 : List Nat := [10, 12]
def pp218x28 : Plan := .op 0 <| .op 1 <| .op 2 <| .op 3 <| .op 4 <| .op 5 <| .op 6 <| .op 7 <| .op 8 <| .op 9 <| .step 10 [] (.op 11 <| .step 12 [] (.done) (.done)) (.done)
attribute [go_sem] sz3 ag3 ze3 in3 sz4 ag4 sz5 ze5 in5 sz9 ag9 ze9 in9 sz21 ag21 sz22 ag22 el22 sz23 ag23 el23 sz24 ag24 el24 sz25 ag25 el25 sz27 ag27 ze27 fi27x0 fi27x1 fi27x2 fi27x3 fi27x4 fi27x5 fi27x6 fi27x7 fi27x8 fi27x9 fi27x10 fi27x11 fi27x12 po27 sz30 ag30 mp34 sz35 ag35 el35 sz37 ag37 el37 sz39 ag39 ze39 pl39x0 pl39x1 po39 sz44 ag44 el44 sz46 ag46 ze46 fi46x0 pl46x0 fi46x1 po46 in46 sz48 ag48 ze48 fi48x0 pl48x0 fi48x1 fi48x2 pl48x2 fi48x3 pl48x3 fi48x4 pl48x4 fi48x5 pl48x5 fi48x6 pl48x6 fi48x7 fi48x8 fi48x9 fi48x10 fi48x11 fi48x12 po48 in48 sz49 ag49 el49 sz50 ag50 el50 sz52 ag52 ze52 fi52x0 pl52x0 fi52x1 fi52x2 pl52x2 fi52x3 pl52x3 fi52x4 pl52x4 fi52x5 pl52x5 fi52x6 pl52x6 fi52x7 pl52x7 po52 sz54 ag54 ze54 fi54x0 pl54x0 fi54x1 fi54x2 fi54x3 fi54x4 fi54x5 pl54x5 fi54x6 pl54x6 fi54x7 pl54x7 fi54x8 pl54x8 fi54x9 pl54x9 fi54x10 pl54x10 fi54x11 pl54x11 po54 in54 sz55 ag55 sz57 fi57x0 fi57x1 in57 ze59 fi59x0 sz68 ze68 fi68x0 pl68x0 po68 sz72 ze72 fi72x0 pl72x0 fi72x1 po72 ze74 fi74x0 pl74x0 fi74x1 po74 sz82 ag82 ze82 fi82x0 fi82x1 fi82x2 fi82x3 fi82x4 fi82x5 fi82x6 fi82x8 po82 sz90 ag90 ze90 fi90x0 fi90x1 fi90x2 fi90x3 fi90x4 fi90x5 po90 in90 sz95 ag95 ze95 fi95x0 pl95x0 fi95x1 pl95x1 po95 in95 sz112 ag112 sz113 ze113 fi113x0 pl113x0 fi113x1 pl113x1 po113 el114 sz122 ag122 ze122 fi122x0 pl122x0 fi122x1 pl122x1 po122 sz123 ag123 ze123 el124 sz126 ag126 ze126 fi126x0 pl126x0 fi126x1 pl126x1 fi126x2 pl126x2 po126 mp134 sz138 ag138 ze138 fi138x0 pl138x0 fi138x1 pl138x1 po138 in138 sz163 sz165 fi165x1 sz167 fi167x0 sz169 fi169x1 sz171 fi171x1 fi171x2 sz173 ag173 ze175 fi175x0 fi175x1 fi175x2 pl175x2 po175 sz222 sz224 fi224x0 fi224x1 pl224x1 po224 Tryz.underlying0 Tryz.underlying2 Tryz.underlying3 Tryz.underlying4 Tryz.underlying5 Tryz.underlying9 Tryz.underlying20 Tryz.underlying21 Tryz.underlying22 Tryz.underlying23 Tryz.underlying24 Tryz.underlying25 Tryz.underlying30 Tryz.underlying35 Tryz.underlying37 Tryz.underlying39 Tryz.underlying44 Tryz.underlying49 Tryz.underlying50 Tryz.underlying55 Tryz.underlying57 Tryz.underlying68 Tryz.underlying90 Tryz.underlying95 Tryz.underlying99 Tryz.underlying100 Tryz.underlying102 Tryz.underlying114 Tryz.underlying115 Tryz.underlying124 Tryz.underlying129 Tryz.underlying134 Tryz.underlying138 Tryz.underlying163 Tryz.underlying179 Tryz.underlying199 Tryz.underlying200 Tryz.underlying203 Tryz.underlying209 Tryz.underlying222 Tryz.underlying225 Tryz.underlying226 Tryz.underlying249 Tryz.underlying258 Tryz.underlying259 ch12x6 pp12x6 ch14x1 pp14x1 ch15x1 pp15x1 ch16x0 pp16x0 ch18x1 pp18x1 ch20x5 pp20x5 ch21x10 pp21x10 ch21x18 pp21x18 ch23x1 pp23x1 ch23x3 pp23x3 ch25x6 pp25x6 ch26x6 pp26x6 ch26x12 pp26x12 ch26x18 pp26x18 ch27x8 pp27x8 ch33x3 pp33x3 ch33x10 pp33x10 ch33x12 pp33x12 ch37x1 pp37x1 ch46x9 pp46x9 ch51x16 pp51x16 ch52x2 pp52x2 ch52x4 pp52x4 ch52x10 pp52x10 ch52x11 pp52x11 ch53x2 pp53x2 ch53x12 pp53x12 ch72x1 pp72x1 ch79x5 pp79x5 ch79x22 pp79x22 ch79x26 pp79x26 ch81x3 pp81x3 ch82x4 pp82x4 ch84x6 pp84x6 ch85x6 pp85x6 ch92x1 pp92x1 ch92x5 pp92x5 ch93x1 pp93x1 ch123x6 pp123x6 ch131x1 pp131x1 ch136x6 pp136x6 ch158x0 pp158x0 ch218x9 pp218x9 ch218x28 pp218x28
end Go.Proofs.YtgjnimemofmncaaGreatDoor
