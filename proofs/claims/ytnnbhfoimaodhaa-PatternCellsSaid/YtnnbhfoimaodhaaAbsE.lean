/-
  The abstract machine, part E: the steps of the state, held against the world.
-/
import Derived.Test.YtnnbhfoimaodhaaAbsD
namespace Go.Abs
set_option linter.unusedVariables false
set_option linter.unusedSimpArgs false

theorem Wf_put {S : St} (h : S.Wf) {b : Nat} {u : Ob} (hb : S.get b = some u) (o : Ob) : (S.put b o).Wf := by
  intro b' o' hg
  rw [St.get_put] at hg
  split at hg
  · rename_i e; subst e; exact h b u hb
  · exact h b' o' hg

theorem Wf_new {S : St} (h : S.Wf) (o : Ob) : (S.new o).Wf := by
  intro b' o' hg
  rw [St.get_new] at hg
  show b' < S.next + 1
  split at hg
  · omega
  · have := h b' o' hg; omega

/-! ### Relations that a change of the world leaves -/
theorem ObRel.keep {G G' : Gh} {B : Base} {w w' : World} {ob : Ob} (hG : G.le G') (hF : ∀ j v, G'.F B.g j = some v → G.F B.g j = some v)
    (hw : w'.heap[B.g]? = w.heap[B.g]?) (h : ObRel G B w ob) : ObRel G' B w' ob := by
  cases ob with
  | blk cs ro T =>
    obtain ⟨h1, h2, C, T', lo, hi, h3, h4, h5, h6, h7⟩ := h
    exact ⟨h1, h2, C, T', lo, hi, hw.trans h3, h4, fun i a ha => let ⟨v, k1, k2, k3⟩ := h5 i a ha; ⟨v, k1, k2.mono hG, k3⟩, h6, fun j v hj => h7 j v (hF j v hj)⟩
  | map ents born clock =>
    obtain ⟨es, h1, h2, h3, h4, h5⟩ := h
    exact ⟨es, hw.trans h1, h2, fun i e p he hp => ⟨((h3 i e p he hp).1).mono hG.F, ((h3 i e p he hp).2).mono hG⟩, fun j v hj => h4 j v (hF j v hj), h5⟩
  | miter m clock seen =>
    obtain ⟨⟨Bm, h1, h2⟩, h3⟩ := h
    exact ⟨⟨Bm, hG.ρ _ _ h1, hw.trans h2⟩, fun j v hj => h3 j v (hF j v hj)⟩
  | niter => exact ⟨hw.trans h.1, fun j v hj => h.2 j v (hF j v hj)⟩
  | siter s pos => exact ⟨hw.trans h.1, fun j v hj => h.2 j v (hF j v hj)⟩
  | dead => trivial

theorem cell_keep {w w' : World} {g o : Nat} {v : Value} (hw : w'.heap[g]? = w.heap[g]?) (h : w.cell? ⟨g, o, none⟩ = some v) : w'.cell? ⟨g, o, none⟩ = some v := by
  unfold World.cell? at *
  rw [hw]; exact h

theorem cell_lt {w : World} {g o : Nat} {v : Value} (h : w.cell? ⟨g, o, none⟩ = some v) : g < w.heap.size := by
  unfold World.cell? at h
  split at h
  · rename_i hh
    exact (Array.getElem?_eq_some_iff.1 hh).1
  · cases h

def Gh.bind (G : Gh) (b : Nat) (B : Base) : Gh := { G with ρ := fun x => if x = b then some B else G.ρ x }

theorem Gh.bind_self (G : Gh) (b : Nat) (B : Base) : (G.bind b B).ρ b = some B := by simp [Gh.bind]
theorem Gh.bind_ne (G : Gh) {b x : Nat} (B : Base) (h : x ≠ b) : (G.bind b B).ρ x = G.ρ x := by simp [Gh.bind, h]

theorem Gh.le_bind {G : Gh} {b : Nat} (B : Base) (h : G.ρ b = none) : G.le (G.bind b B) :=
  ⟨fun _ _ _ h => h, fun x C hx => by
    by_cases hb : x = b
    · subst hb; rw [h] at hx; cases hx
    · rw [Gh.bind_ne G B hb]; exact hx, fun _ _ h => h⟩

/-- A new object of the world for a new object of the state. -/
theorem inv_new {G : Gh} {S : St} {w : World} (h : Inv G S w) (ob : Ob) (obj : Obj) (kn room : Nat)
    (hR : ObRel (G.bind S.next ⟨w.heap.size, 0, kn, room⟩) ⟨w.heap.size, 0, kn, room⟩ (wh w (w.heap.push obj)) ob) :
    Inv (G.bind S.next ⟨w.heap.size, 0, kn, room⟩) (S.new ob) (wh w (w.heap.push obj)) ∧
      Ext G S w (G.bind S.next ⟨w.heap.size, 0, kn, room⟩) (S.new ob) (wh w (w.heap.push obj)) := by
  have hfr := (h.fresh S.next (Nat.le_refl _)).1
  have hle := Gh.le_bind (G := G) ⟨w.heap.size, 0, kn, room⟩ hfr
  have hkeep : ∀ g, g < w.heap.size → (wh w (w.heap.push obj)).heap[g]? = w.heap[g]? := fun g hg => by
    show (w.heap.push obj)[g]? = _
    rw [Array.getElem?_push]; simp [Nat.ne_of_lt hg]
  have hold : ∀ b ob', (S.new ob).get b = some ob' → b ≠ S.next → S.get b = some ob' := fun b ob' hb hne => by
    rw [St.get_new, if_neg (Ne.symm hne)] at hb; exact hb
  refine ⟨⟨Wf_new h.wf ob, ?_, ?_, ?_, ?_, ?_, h.nodup, ?_, ?_⟩, ⟨hle, Nat.le_succ _, by simp [wh], fun g hg _ => hkeep g hg, ?_, rfl, rfl, rfl⟩⟩
  · intro g o v hv
    have := h.cells g o v hv
    exact cell_keep (hkeep g (cell_lt this)) this
  · intro b ob' hb hl
    by_cases hbn : b = S.next
    · subst hbn
      rw [St.get_new, if_pos rfl] at hb
      cases hb
      exact ⟨_, Gh.bind_self _ _ _, hR⟩
    · obtain ⟨B, h1, h2⟩ := h.obs b ob' (hold b ob' hb hbn) hl
      exact ⟨B, by rw [Gh.bind_ne G _ hbn]; exact h1, h2.keep hle (fun j v hj => hj) (hkeep _ (h.born b B h1))⟩
  · intro b b' o1 o2 B B' h1 h2 l1 l2 r1 r2 he
    by_cases hb : b = S.next
    · by_cases hb' : b' = S.next
      · rw [hb, hb']
      · rw [hb, Gh.bind_self] at r1
        rw [Gh.bind_ne G _ hb'] at r2
        cases r1
        have := h.born _ _ r2
        simp only at he; omega
    · by_cases hb' : b' = S.next
      · rw [hb', Gh.bind_self] at r2
        rw [Gh.bind_ne G _ hb] at r1
        cases r2
        have := h.born _ _ r1
        simp only at he; omega
      · rw [Gh.bind_ne G _ hb] at r1
        rw [Gh.bind_ne G _ hb'] at r2
        exact h.apart b b' o1 o2 B B' (hold _ _ h1 hb) (hold _ _ h2 hb') l1 l2 r1 r2 he
  · intro t ht
    obtain ⟨g, st, en, s, k1, ⟨C, T, lo, hi, k2, k3, k4⟩, k5, k6⟩ := h.spare t ht
    have hg : g < w.heap.size := (Array.getElem?_eq_some_iff.1 k2).1
    refine ⟨g, st, en, s, k1, ⟨C, T, lo, hi, (hkeep g hg).trans k2, k3, k4⟩, k5, ?_⟩
    intro b ob' B hb hl hr
    by_cases hbn : b = S.next
    · subst hbn
      rw [Gh.bind_self] at hr
      cases hr
      simp only; omega
    · rw [Gh.bind_ne G _ hbn] at hr
      exact k6 b ob' B (hold b ob' hb hbn) hl hr
  · exact h.tags
  · intro b hb
    have hb' : S.next + 1 ≤ b := hb
    exact ⟨by rw [Gh.bind_ne G _ (by omega)]; exact (h.fresh b (by omega)).1, (h.fresh b (by omega)).2⟩
  · intro b B hb
    show B.g < (w.heap.push obj).size
    rw [Array.size_push]
    by_cases hbn : b = S.next
    · subst hbn
      rw [Gh.bind_self] at hb
      cases hb
      simp only; omega
    · rw [Gh.bind_ne G _ hbn] at hb
      have := h.born b B hb; omega
  · intro g hg
    rcases hg with ⟨b, ob', B, h1, h2, h3, h4⟩ | ⟨t, ht, x, hx⟩
    · by_cases hbn : b = S.next
      · subst hbn
        rw [Gh.bind_self] at h3
        cases h3
        exact .inr (by simp only at h4; omega)
      · rw [Gh.bind_ne G _ hbn] at h3
        exact .inl (.inl ⟨b, ob', B, hold b ob' h1 hbn, h2, h3, h4⟩)
    · exact .inl (.inr ⟨t, ht, x, hx⟩)

/-- A row of cells that has just been made. -/
theorem inv_new_blk {G : Gh} {S : St} {w : World} (h : Inv G S w) (cs : List AV) (ro : Nat) (C : List Value) (T T' : TypeId) (lo hi : Nat)
    (hlen : cs.length ≤ C.length) (hrel : ∀ (i : Nat) (a : AV), cs[i]? = some a → ∃ v, C[i]? = some v ∧ RelA G a v ∧ oneCell v = true)
    (hfr : ∀ j, j < C.length → ¬ (lo ≤ j ∧ j < hi)) :
    ∃ G', Inv G' (S.new (.blk cs ro T)) (wh w (w.heap.push (.cells C.toArray T' (lo, hi)))) ∧
      Ext G S w G' (S.new (.blk cs ro T)) (wh w (w.heap.push (.cells C.toArray T' (lo, hi)))) ∧ G'.ρ S.next = some ⟨w.heap.size, 0, cs.length, C.length⟩ := by
  have hle := Gh.le_bind (G := G) ⟨w.heap.size, 0, cs.length, C.length⟩ (h.fresh S.next (Nat.le_refl _)).1
  have hR : ObRel (G.bind S.next ⟨w.heap.size, 0, cs.length, C.length⟩) ⟨w.heap.size, 0, cs.length, C.length⟩ (wh w (w.heap.push (.cells C.toArray T' (lo, hi)))) (.blk cs ro T) := by
    refine ⟨rfl, hlen, C.toArray, T', lo, hi, by simp [wh], by simp, ?_, ?_, ?_⟩
    · intro i a ha
      obtain ⟨v, k1, k2, k3⟩ := hrel i a ha
      exact ⟨v, by simpa using k1, k2.mono hle, k3⟩
    · intro j h1 h2
      exact hfr j (by simpa using h2)
    · intro j v hj
      have := cell_lt (h.cells _ _ _ hj)
      simp only at this; omega
  obtain ⟨h1, h2⟩ := inv_new h (.blk cs ro T) _ _ _ hR
  exact ⟨_, h1, h2, Gh.bind_self _ _ _⟩

end Go.Abs
