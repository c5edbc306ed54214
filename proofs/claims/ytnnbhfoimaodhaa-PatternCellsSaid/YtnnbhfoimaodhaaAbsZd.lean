/-
  The abstract machine, part Zd: from a closed call to a law's row: what was handed in reads as it did.
-/
import Derived.Test.YtnnbhfoimaodhaaAbsZb
import Derived.ProofKit
import Derived.Carry
import Derived.ChangeSame
import Derived.JoinedOf
import Derived.JoinedAt
namespace Go.Abs
open Go.RowKit Go.WideShapes Go.ChangeShapes
set_option linter.unusedVariables false
set_option linter.unusedSimpArgs false

/-- All that lies in a world, as it lies: nothing of it will be written. -/
def ghW (w : World) : Gh := { F := fun g o => w.cell? ⟨g, o, none⟩, ρ := fun _ => none, τ := fun _ => none }

theorem ghW_inv (w : World) : Inv (ghW w) empty.toSt w := by
  refine ⟨es_wf _, fun g o v h => h, fun b ob hb => ?_, fun b b' ob ob' B B' hb => ?_, fun t ht => (by cases ht), fun t t' g x x' ht => (by cases ht), List.nodup_nil, fun b _ => ⟨rfl, rfl⟩, fun b B hB => (by cases hB)⟩
  · rw [empty_get] at hb; cases hb
  · rw [empty_get] at hb; cases hb

theorem no_own (G : Gh) (g : Nat) : ¬ Own G empty.toSt g := by
  rintro (⟨b, ob, B, h1, _⟩ | ⟨t, ht, _⟩)
  · rw [empty_get] at h1; cases h1
  · cases ht

/-- A call that answers a bool and leaves nothing. -/
theorem calls_of_wc {P : Program} {f : FuncId} {args : List AV} {b : Bool} {vals : List Value} {w : World} (hrun : ∀ vals w, Sem.run P (callFunc f vals) w = .ok (.enter f vals) w)
    (h : WC P f args (Is (.c (.bool b)) empty.toSt) empty.toSt) (hr : RelL (ghW w) args vals) : Calls P f vals.toArray w (fun e w' => e = .returned (.bool b) ∧ Below w.heap.size w w') := by
  have := h (ghW w) vals w hr (ghW_inv w)
  unfold Upon at this
  rw [hrun] at this
  refine Calls.mono this ?_
  rintro e w' ⟨x, S', G', ⟨rfl, rfl⟩, k1, k2, k3⟩
  refine ⟨?_, ⟨k3.os, k3.tape, k3.output, k3.size, fun g hg => k3.same g hg (no_own _ g)⟩⟩
  cases e with
  | returned y => cases relA_c k1; rfl
  | panicked ch => exact k1.elim
  | outgrown => exact k1.elim

section
variable {H : Type} {enc : TypeId × Value → H} {P : Program}

theorem trodAll_stays (hl : laidOutB P = true) {W W' : World} (hb : Below W.heap.size W W') {sp : Nat → Bool} : ∀ {ts : List TypeId} {vs : List Value} {ds : List (DataW H)} {ps : List MemPlace},
    (∀ t ∈ ts, P.readableRec t = true ∧ t < P.types.size) → DataW.TrodAll enc P W 0 (fun _ => true) true ts vs ds ps → (∀ x ∈ ps, x.block < W.heap.size) → (∀ x ∈ ps, sp x.block = true) →
    DataW.TrodAll enc P W' 0 sp true ts vs ds ps
  | [], [], [], ps, _, h, _, _ => h
  | t :: ts, v :: vs, d :: ds, ps, ht, h, h1, h2 => by
    obtain ⟨p, q, k1, k2, rfl⟩ := h
    have hp := ht t (by simp)
    exact ⟨p, q, WideElems.Trod_stays hl hp.1 hp.2 k1 (fun x hx => hb.same (h1 x (by simp [hx]))) (fun x hx => h2 x (by simp [hx])),
      trodAll_stays hl hb (fun t ht' => ht t (by simp [ht'])) k2 (fun x hx => h1 x (by simp [hx])) (fun x hx => h2 x (by simp [hx])), rfl⟩
  | [], _ :: _, _, _, _, h, _, _ => h.elim
  | [], [], _ :: _, _, _, h, _, _ => h.elim
  | _ :: _, [], _, _, _, h, _, _ => h.elim
  | _ :: _, _ :: _, [], _, _, h, _, _ => h.elim

/-- A law's post, where the call answered true and left what was there. -/
theorem law_post (hl : laidOutB P = true) {f : Func} {s : ChangeSpec} {apart fresh handsOn again : Bool} {W W' : World} {args : Array Value} {ds : List (DataW H)} {before : List MemPlace} {tb : TypeId} (hvars : s.vars = [])
    (hts : ∀ t ∈ f.params.toList, P.readableRec t = true ∧ t < P.types.size) (hres : f.resultTypes = #[tb]) (hbool : P.underlying tb = some .bool)
    (hW : DataW.Whole enc P f.params.toList s.vars apart W args.toList ds [] before) (hr : (s.fn H ds).results = [.lit (.bool true)]) (ha : (s.fn H ds).args = ds) (hv : (s.fn H ds).vars = []) (hb : Below W.heap.size W W') :
    s.post enc P f apart fresh handsOn again W args (.bool true) W' := by
  have hlt : ∀ p ∈ before, p.block < W.heap.size := fun p hp => hW.lt p hp
  have hW0 := hW
  obtain ⟨p, q, hA, hV, hpq, hz, hn⟩ := hW0
  rw [hvars] at hV
  obtain ⟨_, rfl⟩ := trodVars_none hV
  have hbp : before = p := by rw [hpq]; simp
  have hargs : ∀ sp : Nat → Bool, (∀ p ∈ before, sp p.block = true) → DataW.TrodAll enc P W' 0 sp true f.params.toList args.toList (s.fn H (ds ++ [])).args before := by
    intro sp hsp
    rw [List.append_nil, ha]
    rw [hbp] at hsp hlt ⊢
    exact trodAll_stays hl hb hts hA hlt hsp
  have hres' : ∀ (b : Nat) (sp : Nat → Bool) (hd : Bool), DataW.TrodAll enc P W' b sp hd f.resultTypes.toList ((Value.bool true).resultList f.resultTypes.size) (s.fn H (ds ++ [])).results [] := by
    intro b sp hd
    rw [List.append_nil, hr, hres]
    exact trodAll_mk1 (shut_bool hbool true)
  have hvars' : ∀ sp : Nat → Bool, (∀ p ∈ before, sp p.block = true) → DataW.TrodVars enc P W' sp s.vars (s.fn H (ds ++ [])).vars [] := by
    intro sp _
    rw [List.append_nil, hv, hvars]
    exact rfl
  have hold : ∀ p ∈ before, (fun b => decide (b < W.heap.size)) p.block = true := fun p hp => by simpa using hlt p hp
  refine ⟨ds, [], before, [], before, [], hW, hres' _ _ _, hargs _ hold, hvars' _ hold, World.keptBut_mono (fun p hp => ⟨hp, Or.inr (by simpa using hp)⟩) (hb.frame (· ∈ before)), fun _ => ?_⟩
  refine ⟨?_, _, _, ([] ++ before) ++ [], ⟨[] ++ before, [], trodAll_append (hargs _ (fun _ _ => rfl)) (hres' _ _ _), hvars' _ (fun _ _ => rfl), rfl, ?_, ?_⟩, ?_⟩
  · exact ok_one hres rfl (okWide_bool_mk hbool true)
  · intro b off hp
    have hin : MemPlace.cell b off ∈ before := by simpa using hp
    rw [hb.frozen (hlt _ hin)]
    exact hz b off hin
  · intro ha'
    have := hn ha'
    simpa using this
  · intro p hp _
    simpa using hp
end

end Go.Abs
