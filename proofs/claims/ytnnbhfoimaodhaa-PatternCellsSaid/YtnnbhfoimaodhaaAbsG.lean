/-
  The abstract machine, part G: operands, cells, loads and stores, held against the model's own.
-/
import Derived.Test.YtnnbhfoimaodhaaAbsF
namespace Go.Abs
set_option linter.unusedVariables false
set_option linter.unusedSimpArgs false

structure EnvRel (N : Nat) (G : Gh) (env : Env) (tmps : Array Value) : Prop where
  size : tmps.size = N
  get : ∀ t, RelA G (env.get t) (tmps.getD t undef)

theorem EnvRel.mono {N : Nat} {G G' : Gh} {env : Env} {tmps : Array Value} (h : EnvRel N G env tmps) (hG : G.le G') : EnvRel N G' env tmps :=
  ⟨h.size, fun t => (h.get t).mono hG⟩

theorem EnvRel.set {N : Nat} {G : Gh} {env : Env} {tmps : Array Value} (h : EnvRel N G env tmps) {d : Nat} (hd : d < N) {v : AV} {x : Value} (hv : RelA G v x) :
    EnvRel N G (env.set d v) (tmps.setIfInBounds d x) := by
  refine ⟨by simp [h.size], fun t => ?_⟩
  rw [Env.get_set]
  by_cases e : d = t
  · subst e
    rw [if_pos rfl]
    have : d < tmps.size := by rw [h.size]; exact hd
    simpa [Array.getD, this] using hv
  · rw [if_neg e]
    have := h.get t
    simpa [Array.getD_eq_getD_getElem?, Array.getElem?_setIfInBounds_ne e] using this

theorem ofScalar_rel {F : Nat → Nat → Option Value} {v : Value} {x : FV} (h : FV.ofScalar v = some x) : RelF F x v ∧ (∀ l, x ≠ .agg l) := by
  unfold FV.ofScalar at h
  split at h <;> first
    | (cases h; exact ⟨by constructor, by intro l; simp⟩)
    | cases h

theorem ofScalars_rel {F : Nat → Nat → Option Value} : ∀ {vs : List Value} {l : List FV}, FV.ofScalars vs = some l →
    l.length = vs.length ∧ ∀ (i : Nat) (a : FV) (b : Value), l[i]? = some a → vs[i]? = some b → RelF F a b
  | [], l, h => by simp [FV.ofScalars] at h; subst h; exact ⟨rfl, fun i a b h => by simp at h⟩
  | v :: r, l, h => by
    simp only [FV.ofScalars] at h
    split at h
    · rename_i x m h1 h2
      cases h
      obtain ⟨k1, k2⟩ := ofScalars_rel (F := F) h2
      refine ⟨by simp [k1], ?_⟩
      intro i a b ha hb
      cases i with
      | zero => simp at ha hb; subst ha; subst hb; exact (ofScalar_rel h1).1
      | succ i => simp at ha hb; exact k2 i a b ha hb
    · cases h

theorem ofValue_rel {F : Nat → Nat → Option Value} {v : Value} {x : FV} (h : FV.ofValue v = some x) : RelF F x v := by
  unfold FV.ofValue at h
  split at h
  · rename_i cs
    split at h
    · rename_i l hl
      cases h
      obtain ⟨k1, k2⟩ := ofScalars_rel (F := F) hl
      have := RelF.agg (F := F) l cs.toList k1 k2
      simpa using this
    · cases h
  · exact (ofScalar_rel h).1

theorem opnd_rel {N : Nat} {G : Gh} {env : Env} {a : Act} (hE : EnvRel N G env a.tmps) {x : Operand} {v : AV} (h : opnd env x = some v) : RelA G v (a.eval x) := by
  cases x with
  | tmp t => simp [opnd] at h; subst h; exact hE.get t
  | const c =>
    simp only [opnd] at h
    split at h
    · rename_i y hy; cases h; exact .c (ofValue_rel hy)
    · cases h
  | global g => simp [opnd] at h; subst h; exact .gref g
  | func f => simp [opnd] at h; subst h; exact .c (.fn f)

theorem opnds_rel {N : Nat} {G : Gh} {env : Env} {a : Act} (hE : EnvRel N G env a.tmps) : ∀ {xs : List Operand} {l : List AV}, opnds env xs = some l →
    RelL G l (xs.map a.eval)
  | [], l, h => by simp [opnds] at h; subst h; exact ⟨rfl, fun i a b h => by simp at h⟩
  | x :: r, l, h => by
    simp only [opnds] at h
    split at h
    · rename_i v m h1 h2
      cases h
      have ih := opnds_rel hE h2
      refine ⟨by simp [ih.len], ?_⟩
      intro i a b ha hb
      cases i with
      | zero => simp at ha hb; subst ha; subst hb; exact opnd_rel hE h1
      | succ i => simp at ha hb; exact ih.rel i a b ha (by simpa using hb)
    · cases h

theorem partsA_rel {N : Nat} {G : Gh} {env : Env} {a : Act} (hE : EnvRel N G env a.tmps) : ∀ {xs : List (Nat × Operand)} {l : List (Nat × AV)}, partsA env xs = some l →
    l.length = xs.length ∧ ∀ (i : Nat) (p : Nat × AV) (q : Nat × Operand), l[i]? = some p → xs[i]? = some q → p.1 = q.1 ∧ RelA G p.2 (a.eval q.2)
  | [], l, h => by simp [partsA] at h; subst h; exact ⟨rfl, fun i a b h => by simp at h⟩
  | (k, x) :: r, l, h => by
    simp only [partsA] at h
    split at h
    · rename_i v m h1 h2
      cases h
      obtain ⟨k1, k2⟩ := partsA_rel hE h2
      refine ⟨by simp [k1], ?_⟩
      intro i p q hp hq
      cases i with
      | zero => simp at hp hq; subst hp; subst hq; exact ⟨rfl, opnd_rel hE h1⟩
      | succ i => simp at hp hq; exact k2 i p q hp hq
    · cases h

/-! ### Cells of values -/
theorem allPure_spec : ∀ {cs : List AV} {l : List FV}, allPure cs = some l → cs = l.map .c
  | [], l, h => by simp [allPure] at h; subst h; rfl
  | .c v :: r, l, h => by
    simp only [allPure] at h
    split at h
    · rename_i m hm; cases h; simp [allPure_spec hm]
    · cases h
  | .ref _ _ :: _, _, h | .fref _ _ :: _, _, h | .gref _ :: _, _, h | .sl _ _ _ _ _ :: _, _, h | .fz _ _ :: _, _, h | .map _ :: _, _, h | .iter _ :: _, _, h
  | .clo _ _ _ :: _, _, h | .iface _ _ :: _, _, h | .agg _ :: _, _, h | .tup _ :: _, _, h | .undef :: _, _, h => by simp [allPure] at h

theorem relA_c {G : Gh} {v : FV} {x : Value} (h : RelA G (.c v) x) : RelF G.F v x := by cases h; assumption

theorem relL_c {G : Gh} {l : List FV} {vs : List Value} (h : RelL G (l.map .c) vs) (i : Nat) (a : FV) (b : Value) (ha : l[i]? = some a) (hb : vs[i]? = some b) : RelF G.F a b :=
  relA_c (h.rel i (.c a) b (by simp [ha]) hb)

theorem mkAgg_rel {G : Gh} {cs : List AV} {vs : List Value} (h : RelL G cs vs) : RelA G (mkAgg cs) (.agg vs.toArray) := by
  unfold mkAgg
  split
  · rename_i l hl
    have := allPure_spec hl
    subst this
    exact .c (.agg l vs (by simpa using h.len) (relL_c h))
  · exact .agg h.len h.rel

theorem scalar_one {G : Gh} {v : AV} {x : Value} (h : RelA G v x) (hs : v.scalar = true) : oneCell x = true := by
  cases h with
  | c h => cases h <;> first | rfl | simp [AV.scalar] at hs
  | agg => simp [AV.scalar] at hs
  | tup => simp [AV.scalar] at hs
  | undef => simp [AV.scalar] at hs
  | _ => rfl

theorem one_cells {x : Value} (h : oneCell x = true) : x.cells = #[x] := by cases x <;> first | rfl | simp [oneCell] at h

theorem cells_rel {G : Gh} {v : AV} {x : Value} (h : RelA G v x) (hs : v.cells.all AV.scalar = true) : RelL G v.cells x.cells.toList ∧ x.cells.toList.all oneCell = true := by
  have single : v.cells = [v] → RelL G v.cells x.cells.toList ∧ x.cells.toList.all oneCell = true := fun e => by
    rw [e] at hs ⊢
    have h1 := scalar_one h (by simpa using hs)
    rw [one_cells h1]
    refine ⟨⟨rfl, ?_⟩, by simp [h1]⟩
    intro i a b ha hb
    cases i with
    | zero => simp at ha hb; subst ha; subst hb; exact h
    | succ i => simp at ha
  have list : ∀ {cs : List AV} {vs : List Value}, v.cells = cs → x.cells.toList = vs → RelL G cs vs → RelL G v.cells x.cells.toList ∧ x.cells.toList.all oneCell = true := fun {cs vs} e1 e2 hr => by
    rw [e1] at hs
    rw [e1, e2]
    refine ⟨hr, List.all_eq_true.2 fun y hy => ?_⟩
    obtain ⟨i, hi, hy'⟩ := List.mem_iff_getElem.1 hy
    have hic : i < cs.length := by rw [hr.len]; exact hi
    have h1 := hr.rel i cs[i] vs[i] (by simp [hic]) (by simp [hi])
    rw [← hy']
    exact scalar_one h1 (List.all_eq_true.1 hs _ (List.getElem_mem hic))
  cases h with
  | @c v x hf =>
    cases hf with
    | agg cs vs hl hr =>
      refine list (cs := cs.map .c) (vs := vs) rfl (by simp [Value.cells]) ⟨by simpa using hl, ?_⟩
      intro i a b ha hb
      simp only [List.getElem?_map, Option.map_eq_some_iff] at ha
      obtain ⟨a', ha', rfl⟩ := ha
      exact .c (hr i a' b ha' hb)
    | _ => exact single rfl
  | agg hl hr => exact list rfl (by simp [Value.cells]) ⟨hl, hr⟩
  | _ => exact single rfl

/-! ### Parts -/
theorem relL_take {G : Gh} {cs : List AV} {vs : List Value} (h : RelL G cs vs) (off n : Nat) : RelL G ((cs.drop off).take n) ((vs.drop off).take n) := by
  refine ⟨by simp [h.len], ?_⟩
  intro i a b ha hb
  rw [List.getElem?_take] at ha hb
  split at ha
  · rename_i hi
    rw [if_pos hi] at hb
    rw [List.getElem?_drop] at ha hb
    exact h.rel _ a b ha hb
  · cases ha

theorem relL_append {G : Gh} {cs ds : List AV} {vs us : List Value} (h : RelL G cs vs) (k : RelL G ds us) : RelL G (cs ++ ds) (vs ++ us) := by
  refine ⟨by simp [h.len, k.len], ?_⟩
  intro i a b ha hb
  rw [List.getElem?_append] at ha hb
  rw [h.len] at ha
  split at ha
  · rename_i hi; rw [if_pos hi] at hb; exact h.rel i a b ha hb
  · rename_i hi; rw [if_neg hi] at hb; exact k.rel _ a b ha hb

theorem relL_cell {G : Gh} {cs : List AV} {vs : List Value} (h : RelL G cs vs) {i : Nat} {a : AV} (ha : cs[i]? = some a) : ∃ v, vs[i]? = some v ∧ RelA G a v := by
  have hi : i < cs.length := (List.getElem?_eq_some_iff.1 ha).1
  have hi' : i < vs.length := by rw [← h.len]; exact hi
  exact ⟨vs[i], by simp [hi'], h.rel i a vs[i] ha (by simp [hi'])⟩

theorem partOf_cases {P : Program} {T : TypeId} {cs : List AV} {off : Nat} {v : AV} (h : partOf P T cs off = some v) :
    (∃ n, isAggT P T = some true ∧ szT P T = some n ∧ off + n ≤ cs.length ∧ v = mkAgg ((cs.drop off).take n)) ∨
    (∃ n, isAggT P T = some false ∧ szT P T = some n ∧ cs[off]? = some v) := by
  unfold partOf at h
  split at h
  · rename_i n h1 h2
    cases hb : Nat.ble (off + n) cs.length with
    | true =>
      rw [hb] at h
      simp at h
      exact .inl ⟨n, h1, h2, Nat.le_of_ble_eq_true hb, h.symm⟩
    | false => rw [hb] at h; simp at h
  · rename_i n h1 h2
    exact .inr ⟨n, h1, h2, h⟩
  · cases h

theorem run_part {P : Program} {G : Gh} {T : TypeId} {cs : List AV} {vs : List Value} {off : Nat} {v : AV} (h : partOf P T cs off = some v) (hr : RelL G cs vs) (w : World) :
    ∃ x, Sem.run P (part T vs.toArray off) w = .ok x w ∧ RelA G v x := by
  rcases partOf_cases h with ⟨n, h1, h2, h3, rfl⟩ | ⟨n, h1, h2, h3⟩
  · refine ⟨.agg ((vs.drop off).take n).toArray, ?_, mkAgg_rel (relL_take hr off n)⟩
    have : vs.toArray.extract off (off + n) = ((vs.drop off).take n).toArray := by
      apply Array.ext'
      simp [List.extract_eq_take_drop, List.drop_take]
    simp [part, run_isAgg P h1, run_sizeOf P h2, this]
  · obtain ⟨x, hx, hrx⟩ := relL_cell hr h3
    refine ⟨x, ?_, hrx⟩
    simp [part, run_isAgg P h1, hx]

/-- A load of a variable whose cells are known. -/
theorem run_loadVar {P : Program} {G : Gh} {T : TypeId} {cs : List AV} {off g o : Nat} {v : AV} {w : World} (h : partOf P T cs off = some v)
    (hr : ∀ (i : Nat) (a : AV), cs[i]? = some a → ∃ x, w.cell? ⟨g, o + i, none⟩ = some x ∧ RelA G a x) :
    ∃ x, Sem.run P (loadVar T ⟨g, o + off, none⟩) w = .ok x w ∧ RelA G v x := by
  rcases partOf_cases h with ⟨n, h1, h2, h3, rfl⟩ | ⟨n, h1, h2, h3⟩
  · -- the cells, one by one
    have hex : ∀ k, k ≤ n → ∃ vs : List Value, vs.length = k ∧ RelL G ((cs.drop off).take k) vs ∧ ∀ j v, vs[j]? = some v → w.cell? ⟨g, o + off + j, none⟩ = some v := by
      intro k
      induction k with
      | zero => intro _; exact ⟨[], rfl, ⟨by simp, fun i a b ha => by simp at ha⟩, fun j v hj => by simp at hj⟩
      | succ k ih =>
        intro hk
        obtain ⟨vs, k1, k2, k3⟩ := ih (by omega)
        have hlt : off + k < cs.length := by omega
        obtain ⟨x, hx, hrx⟩ := hr (off + k) cs[off + k] (by simp [hlt])
        refine ⟨vs ++ [x], by simp [k1], ?_, ?_⟩
        · have e : (cs.drop off).take (k + 1) = (cs.drop off).take k ++ [cs[off + k]] := by
            rw [List.take_succ_eq_append_getElem (by simp; omega)]
            simp
          rw [e]
          exact relL_append k2 ⟨rfl, fun i a b ha hb => by
            cases i with
            | zero => simp at ha hb; subst ha; subst hb; exact hrx
            | succ i => simp at ha⟩
        · intro j v hj
          rw [List.getElem?_append] at hj
          split at hj
          · exact k3 j v hj
          · rename_i hge
            have : j = k := by
              rcases Nat.lt_or_ge (j - vs.length) 1 with h0 | h0
              · omega
              · rw [List.getElem?_eq_none (by simpa using h0)] at hj; cases hj
            subst this
            simp [k1] at hj
            subst hj
            rw [Nat.add_assoc]; exact hx
    obtain ⟨vs, k1, k2, k3⟩ := hex n (Nat.le_refl _)
    refine ⟨.agg vs.toArray, ?_, mkAgg_rel k2⟩
    have := run_loadCells P (w := w) (g := g) (o := o + off) vs k3
    rw [k1] at this
    simp [loadVar, run_isAgg P h1, run_sizeOf P h2, this]
  · obtain ⟨x, hx, hrx⟩ := hr off v h3
    refine ⟨x, ?_, hrx⟩
    have hx' : w.cell? ⟨g, o + off, none⟩ = some x := hx
    simp [loadVar, run_isAgg P h1, hx']

end Go.Abs
