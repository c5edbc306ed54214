/-
  The abstract machine, part F: writing, moving and freezing rows.
-/
import Derived.Test.YtnnbhfoimaodhaaAbsE
namespace Go.Abs
set_option linter.unusedVariables false
set_option linter.unusedSimpArgs false

theorem wh_set_ne {w : World} {g : Nat} {o : Obj} {k : Nat} (h : g ≠ k) : (wh w (w.heap.setIfInBounds g o)).heap[k]? = w.heap[k]? := by
  simp [wh, Array.getElem?_setIfInBounds_ne h]
theorem wh_set_eq {w : World} {g : Nat} {o : Obj} (h : g < w.heap.size) : (wh w (w.heap.setIfInBounds g o)).heap[g]? = some o := by
  simp [wh, h]

/-- A live object written where it lies. -/
theorem inv_upd {G : Gh} {S : St} {w : World} (h : Inv G S w) {b : Nat} {ob0 ob : Ob} {B : Base} (hb : S.get b = some ob0) (hl0 : ob0.live = true) (hl : ob.live = true)
    (hB : G.ρ b = some B) (obj : Obj) (hR : ObRel G B (wh w (w.heap.setIfInBounds B.g obj)) ob)
    (hF : ∀ j v, G.F B.g j = some v → (wh w (w.heap.setIfInBounds B.g obj)).cell? ⟨B.g, j, none⟩ = some v) :
    Inv G (S.put b ob) (wh w (w.heap.setIfInBounds B.g obj)) ∧ Ext G S w G (S.put b ob) (wh w (w.heap.setIfInBounds B.g obj)) := by
  have hg := h.born b B hB
  have hget : ∀ b' ob', (S.put b ob).get b' = some ob' → b' ≠ b → S.get b' = some ob' := fun b' ob' h1 h2 => by
    rw [St.get_put, if_neg (Ne.symm h2)] at h1; exact h1
  have hlive : ∀ b' ob', (S.put b ob).get b' = some ob' → ob'.live = true → ∃ o2, S.get b' = some o2 ∧ o2.live = true := fun b' ob' h1 h2 => by
    by_cases e : b' = b
    · subst e; exact ⟨ob0, hb, hl0⟩
    · exact ⟨ob', hget b' ob' h1 e, h2⟩
  refine ⟨⟨Wf_put h.wf hb ob, ?_, ?_, ?_, ?_, h.tags, h.nodup, h.fresh, ?_⟩, ⟨.refl G, Nat.le_refl _, by simp [wh], ?_, ?_, rfl, rfl, rfl⟩⟩
  · intro g o v hv
    by_cases e : B.g = g
    · subst e; exact hF o v hv
    · exact cell_keep (wh_set_ne e) (h.cells g o v hv)
  · intro b' ob' h1 h2
    by_cases e : b' = b
    · subst e
      rw [St.get_put, if_pos rfl] at h1
      cases h1
      exact ⟨B, hB, hR⟩
    · obtain ⟨B', k1, k2⟩ := h.obs b' ob' (hget b' ob' h1 e) h2
      have hne : B.g ≠ B'.g := fun he => e (h.apart b b' ob0 ob' B B' hb (hget b' ob' h1 e) hl0 h2 hB k1 he).symm
      exact ⟨B', k1, k2.keep (.refl G) (fun _ _ hj => hj) (wh_set_ne hne)⟩
  · intro b1 b2 o1 o2 B1 B2 h1 h2 l1 l2 r1 r2 he
    obtain ⟨p1, q1, q1'⟩ := hlive b1 o1 h1 l1
    obtain ⟨p2, q2, q2'⟩ := hlive b2 o2 h2 l2
    exact h.apart b1 b2 p1 p2 B1 B2 q1 q2 q1' q2' r1 r2 he
  · intro t ht
    obtain ⟨g, st, en, s, k1, ⟨C, T, lo, hi, k2, k3, k4⟩, k5, k6⟩ := h.spare t ht
    have hne : B.g ≠ g := k6 b ob0 B hb hl0 hB
    refine ⟨g, st, en, s, k1, ⟨C, T, lo, hi, (wh_set_ne hne).trans k2, k3, k4⟩, k5, ?_⟩
    intro b' ob' B' h1 h2 h3
    obtain ⟨p1, q1, q1'⟩ := hlive b' ob' h1 h2
    exact k6 b' p1 B' q1 q1' h3
  · intro b' B' h1
    have := h.born b' B' h1
    simpa [wh] using this
  · intro g hg' hn
    exact wh_set_ne fun e => hn (.inl ⟨b, ob0, B, hb, hl0, hB, e⟩)
  · intro g ho
    rcases ho with ⟨b', ob', B', h1, h2, h3, h4⟩ | ho
    · obtain ⟨p1, q1, q1'⟩ := hlive b' ob' h1 h2
      exact .inl (.inl ⟨b', p1, B', q1, q1', h3, h4⟩)
    · exact .inl (.inr ho)

/-- A live object let go, its block written. -/
theorem inv_kill {G : Gh} {S : St} {w : World} (h : Inv G S w) {b : Nat} {ob0 : Ob} {B : Base} (hb : S.get b = some ob0) (hl0 : ob0.live = true)
    (hB : G.ρ b = some B) (obj : Obj) (hF : ∀ j v, G.F B.g j = some v → (wh w (w.heap.setIfInBounds B.g obj)).cell? ⟨B.g, j, none⟩ = some v) :
    Inv G (S.del b) (wh w (w.heap.setIfInBounds B.g obj)) ∧ Ext G S w G (S.del b) (wh w (w.heap.setIfInBounds B.g obj)) ∧ ¬ Own G (S.del b) B.g := by
  have hg := h.born b B hB
  have hget : ∀ b' ob', (S.del b).get b' = some ob' → ob'.live = true → b' ≠ b ∧ S.get b' = some ob' := fun b' ob' h1 h2 => by
    unfold St.del at h1
    rw [St.get_put] at h1
    by_cases e : b = b'
    · rw [if_pos e] at h1; cases h1; cases h2
    · rw [if_neg e] at h1; exact ⟨Ne.symm e, h1⟩
  refine ⟨⟨Wf_put h.wf hb _, ?_, ?_, ?_, ?_, h.tags, h.nodup, h.fresh, ?_⟩, ⟨.refl G, Nat.le_refl _, by simp [wh], ?_, ?_, rfl, rfl, rfl⟩, ?_⟩
  · intro g o v hv
    by_cases e : B.g = g
    · subst e; exact hF o v hv
    · exact cell_keep (wh_set_ne e) (h.cells g o v hv)
  · intro b' ob' h1 h2
    obtain ⟨e, h1'⟩ := hget b' ob' h1 h2
    obtain ⟨B', k1, k2⟩ := h.obs b' ob' h1' h2
    have hne : B.g ≠ B'.g := fun he => e (h.apart b b' ob0 ob' B B' hb h1' hl0 h2 hB k1 he).symm
    exact ⟨B', k1, k2.keep (.refl G) (fun _ _ hj => hj) (wh_set_ne hne)⟩
  · intro b1 b2 o1 o2 B1 B2 h1 h2 l1 l2 r1 r2 he
    exact h.apart b1 b2 o1 o2 B1 B2 (hget b1 o1 h1 l1).2 (hget b2 o2 h2 l2).2 l1 l2 r1 r2 he
  · intro t ht
    obtain ⟨g, st, en, s, k1, ⟨C, T, lo, hi, k2, k3, k4⟩, k5, k6⟩ := h.spare t ht
    have hne : B.g ≠ g := k6 b ob0 B hb hl0 hB
    exact ⟨g, st, en, s, k1, ⟨C, T, lo, hi, (wh_set_ne hne).trans k2, k3, k4⟩, k5, fun b' ob' B' h1 h2 h3 => k6 b' ob' B' (hget b' ob' h1 h2).2 h2 h3⟩
  · intro b' B' h1
    have := h.born b' B' h1
    simpa [wh] using this
  · intro g hg' hn
    exact wh_set_ne fun e => hn (.inl ⟨b, ob0, B, hb, hl0, hB, e⟩)
  · intro g ho
    rcases ho with ⟨b', ob', B', h1, h2, h3, h4⟩ | ho
    · exact .inl (.inl ⟨b', ob', B', (hget b' ob' h1 h2).2, h2, h3, h4⟩)
    · exact .inl (.inr ho)
  · rintro (⟨b', ob', B', h1, h2, h3, h4⟩ | ⟨t, ht, x, hx⟩)
    · obtain ⟨e, h1'⟩ := hget b' ob' h1 h2
      exact e (h.apart b' b ob' ob0 B' B h1' hb h2 hl0 h3 hB h4)
    · obtain ⟨g, st, en, s, k1, _, _, k6⟩ := h.spare t ht
      rw [hx] at k1
      have : B.g = g := by cases k1; rfl
      exact k6 b ob0 B hb hl0 hB this

/-- A tag let go, its block written. -/
theorem inv_take {G : Gh} {S : St} {w : World} (h : Inv G S w) {t g st en s : Nat} (ht : t ∈ S.spare) (hτ : G.τ t = some (g, st, en, s)) (obj : Obj)
    (hF : ∀ j v, G.F g j = some v → (wh w (w.heap.setIfInBounds g obj)).cell? ⟨g, j, none⟩ = some v) :
    Inv G { S with spare := S.spare.erase t } (wh w (w.heap.setIfInBounds g obj)) ∧
      Ext G S w G { S with spare := S.spare.erase t } (wh w (w.heap.setIfInBounds g obj)) ∧ ¬ Own G { S with spare := S.spare.erase t } g := by
  obtain ⟨g', st', en', s', k1, ⟨C, T, lo, hi, k2, k3, k4⟩, k5, k6⟩ := h.spare t ht
  rw [hτ] at k1
  cases k1
  have hmem : ∀ t', t' ∈ S.spare.erase t → t' ∈ S.spare ∧ t' ≠ t := fun t' h1 => by
    have := (List.Nodup.mem_erase_iff h.nodup).1 h1
    exact ⟨this.2, this.1⟩
  refine ⟨⟨h.wf, ?_, ?_, h.apart, ?_, ?_, h.nodup.erase t, h.fresh, ?_⟩, ⟨.refl G, Nat.le_refl _, by simp [wh], ?_, ?_, rfl, rfl, rfl⟩, ?_⟩
  · intro g' o v hv
    by_cases e : g = g'
    · subst e; exact hF o v hv
    · exact cell_keep (wh_set_ne e) (h.cells g' o v hv)
  · intro b' ob' h1 h2
    obtain ⟨B', k1, k2⟩ := h.obs b' ob' h1 h2
    exact ⟨B', k1, k2.keep (.refl G) (fun _ _ hj => hj) (wh_set_ne (Ne.symm (k6 b' ob' B' h1 h2 k1)))⟩
  · intro t' ht'
    obtain ⟨h1, h2⟩ := hmem t' ht'
    obtain ⟨g2, st2, en2, s2, p1, ⟨C2, T2, lo2, hi2, p2, p3, p4⟩, p5, p6⟩ := h.spare t' h1
    have hne : g ≠ g2 := fun e => by
      subst e
      exact h2 (h.tags t' t g _ _ h1 ht p1 hτ)
    exact ⟨g2, st2, en2, s2, p1, ⟨C2, T2, lo2, hi2, (wh_set_ne hne).trans p2, p3, p4⟩, p5, p6⟩
  · intro t1 t2 g1 x1 x2 m1 m2
    exact h.tags t1 t2 g1 x1 x2 (hmem _ m1).1 (hmem _ m2).1
  · intro b' B' h1
    have := h.born b' B' h1
    simpa [wh] using this
  · intro g' hg' hn
    exact wh_set_ne fun e => hn (.inr ⟨t, ht, (st, en, s), by rw [hτ, e]⟩)
  · intro g' ho
    rcases ho with ho | ⟨t', ht', x, hx⟩
    · exact .inl (.inl ho)
    · exact .inl (.inr ⟨t', (hmem t' ht').1, x, hx⟩)
  · rintro (⟨b', ob', B', h1, h2, h3, h4⟩ | ⟨t', ht', x, hx⟩)
    · exact k6 b' ob' B' h1 h2 h3 h4
    · obtain ⟨h1, h2⟩ := hmem t' ht'
      exact h2 (h.tags t' t g x _ h1 ht hx hτ)

/-- A block that nobody owns, taken under a new number. -/
theorem inv_adopt {G : Gh} {S : St} {w : World} (h : Inv G S w) (ob : Ob) (B : Base) (hg : B.g < w.heap.size) (hn : ¬ Own G S B.g)
    (hR : ObRel (G.bind S.next B) B w ob) :
    Inv (G.bind S.next B) (S.new ob) w ∧ G.le (G.bind S.next B) ∧ ∀ g, Own (G.bind S.next B) (S.new ob) g → Own G S g ∨ g = B.g := by
  have hfr := (h.fresh S.next (Nat.le_refl _)).1
  have hle := Gh.le_bind (G := G) B hfr
  have hold : ∀ b ob', (S.new ob).get b = some ob' → b ≠ S.next → S.get b = some ob' := fun b ob' hb hne => by
    rw [St.get_new, if_neg (Ne.symm hne)] at hb; exact hb
  refine ⟨⟨Wf_new h.wf ob, h.cells, ?_, ?_, ?_, h.tags, h.nodup, ?_, ?_⟩, hle, ?_⟩
  · intro b ob' hb hl
    by_cases hbn : b = S.next
    · subst hbn
      rw [St.get_new, if_pos rfl] at hb
      cases hb
      exact ⟨_, Gh.bind_self _ _ _, hR⟩
    · obtain ⟨B', h1, h2⟩ := h.obs b ob' (hold b ob' hb hbn) hl
      exact ⟨B', by rw [Gh.bind_ne G _ hbn]; exact h1, h2.keep hle (fun j v hj => hj) rfl⟩
  · intro b b' o1 o2 B1 B2 h1 h2 l1 l2 r1 r2 he
    by_cases hb : b = S.next
    · by_cases hb' : b' = S.next
      · rw [hb, hb']
      · rw [hb, Gh.bind_self] at r1
        rw [Gh.bind_ne G _ hb'] at r2
        cases r1
        exact absurd (.inl ⟨b', o2, B2, hold _ _ h2 hb', l2, r2, he.symm⟩) hn
    · by_cases hb' : b' = S.next
      · rw [hb', Gh.bind_self] at r2
        rw [Gh.bind_ne G _ hb] at r1
        cases r2
        exact absurd (.inl ⟨b, o1, B1, hold _ _ h1 hb, l1, r1, he⟩) hn
      · rw [Gh.bind_ne G _ hb] at r1
        rw [Gh.bind_ne G _ hb'] at r2
        exact h.apart b b' o1 o2 B1 B2 (hold _ _ h1 hb) (hold _ _ h2 hb') l1 l2 r1 r2 he
  · intro t ht
    obtain ⟨g, st, en, s, k1, k2, k5, k6⟩ := h.spare t ht
    refine ⟨g, st, en, s, k1, k2, k5, ?_⟩
    intro b ob' B' hb hl hr
    by_cases hbn : b = S.next
    · subst hbn
      rw [Gh.bind_self] at hr
      cases hr
      exact fun e => hn (.inr ⟨t, ht, (st, en, s), by rw [k1, e]⟩)
    · rw [Gh.bind_ne G _ hbn] at hr
      exact k6 b ob' B' (hold b ob' hb hbn) hl hr
  · intro b hb
    have hb' : S.next + 1 ≤ b := hb
    exact ⟨by rw [Gh.bind_ne G _ (by omega)]; exact (h.fresh b (by omega)).1, (h.fresh b (by omega)).2⟩
  · intro b B' hb
    by_cases hbn : b = S.next
    · subst hbn
      rw [Gh.bind_self] at hb
      cases hb
      exact hg
    · rw [Gh.bind_ne G _ hbn] at hb
      exact h.born b B' hb
  · intro g ho
    rcases ho with ⟨b, ob', B', h1, h2, h3, h4⟩ | ⟨t, ht, x, hx⟩
    · by_cases hbn : b = S.next
      · subst hbn
        rw [Gh.bind_self] at h3
        cases h3
        exact .inr h4.symm
      · rw [Gh.bind_ne G _ hbn] at h3
        exact .inl (.inl ⟨b, ob', B', hold b ob' h1 hbn, h2, h3, h4⟩)
    · exact .inl (.inr ⟨t, ht, x, hx⟩)

/-- An extension, and behind it a block taken that the first state owned. -/
theorem Ext.adopt {G G1 : Gh} {S S1 S2 : St} {w w1 : World} {B : Base} (h : Ext G S w G S1 w1) (hle : G.le G1) (hn : S1.next ≤ S2.next) (hB : Own G S B.g)
    (ho : ∀ g, Own G1 S2 g → Own G S1 g ∨ g = B.g) : Ext G S w G1 S2 w1 :=
  ⟨hle, Nat.le_trans h.next hn, h.size, h.same, fun g hg => by
    rcases ho g hg with h1 | h1
    · exact h.own g h1
    · subst h1; exact .inl hB, h.os, h.tape, h.output⟩

end Go.Abs
