/-
  The abstract machine, part P: values that are built.
-/
import Derived.Test.YtnnbhfoimaodhaaAbsO
namespace Go.Abs
set_option linter.unusedVariables false
set_option linter.unusedSimpArgs false

theorem fold_over (l : List Value) : ∀ (k off : Nat) (C : Array Value), (l.zipIdx k).foldl (fun cs p => cs.setIfInBounds (off + p.2) p.1) C = overL C (off + k) l := by
  induction l with
  | nil => intro k off C; rfl
  | cons v r ih =>
    intro k off C
    simp only [List.zipIdx_cons, List.foldl_cons, overL]
    rw [ih]
    congr 1

theorem fold_over' (a : Array Value) (off : Nat) (C : Array Value) : (a.zipIdx.foldl (fun cs (p : Value × Nat) => match p with | (c, j) => cs.setIfInBounds (off + j) c) C) = overL C off a.toList := by
  have := fold_over a.toList 0 off C
  rw [Nat.add_zero] at this
  rw [← this, ← Array.foldl_toList]
  simp

theorem rel_over {G : Gh} {cs as : List AV} {vs us : List Value} {off : Nat} (h : RelL G cs vs) (k : RelL G as us) (hl : off + as.length ≤ cs.length) :
    RelL G (setRange cs off as) (overL vs.toArray off us).toList := by
  have hl' : off + us.length ≤ vs.toArray.size := by rw [← k.len]; simpa [← h.len] using hl
  refine ⟨by rw [setRange_length _ _ _ hl]; simp [overL_size, h.len], ?_⟩
  intro i a b ha hb
  rw [Array.getElem?_toList, overL_get _ _ _ _ hl'] at hb
  rw [setRange_get _ _ _ hl, k.len] at ha
  split at ha
  · rename_i hi; rw [if_pos hi] at hb; exact k.rel _ a b ha hb
  · rename_i hi; rw [if_neg hi] at hb; exact h.rel i a b ha (by simpa using hb)

theorem fill_rel {G : Gh} {place : Nat → Option (Nat × Nat)} : ∀ {ps : List (Nat × AV)} {qs : List (Nat × Value)} {cs cs' : List AV} {vs : List Value}, fillA place cs ps = some cs' →
    RelL G cs vs → ps.length = qs.length → (∀ (i : Nat) (p : Nat × AV) (q : Nat × Value), ps[i]? = some p → qs[i]? = some q → p.1 = q.1 ∧ RelA G p.2 q.2) →
    ∃ us : List Value, Instr.fill place vs.toArray qs = some us.toArray ∧ RelL G cs' us
  | [], [], cs, cs', vs, h, hr, _, _ => by simp [fillA] at h; subst h; exact ⟨vs, rfl, hr⟩
  | [], q :: qs, _, _, _, _, _, hl, _ => by simp at hl
  | p :: ps, [], _, _, _, _, _, hl, _ => by simp at hl
  | (i, v) :: ps, (j, x) :: qs, cs, cs', vs, h, hr, hl, hp => by
    obtain ⟨h1, h2⟩ := hp 0 _ _ rfl rfl
    simp only at h1 h2
    subst h1
    simp only [fillA] at h
    split at h
    · rename_i off n hpl
      split at h
      · rename_i hc
        obtain ⟨r1, r2⟩ := cells_rel h2 hc.2.2
        have hxs : x.cells.size = n := by have := r1.len; simp only [Array.length_toList] at this; omega
        have hle : off + v.cells.length ≤ cs.length := by omega
        obtain ⟨us, k1, k2⟩ := fill_rel h (rel_over hr r1 hle) (by simpa using hl) (fun i p q hp' hq' => hp (i + 1) p q (by simpa using hp') (by simpa using hq'))
        refine ⟨us, ?_, k2⟩
        simp only [Instr.fill, hpl]
        rw [if_neg (by have := hr.len; simp [hxs]; omega), fold_over']
        simpa using k1
      · cases h
    · cases h

theorem ofScalars_scalar : ∀ {vs : List Value} {l : List FV}, FV.ofScalars vs = some l → (l.map AV.c).all AV.scalar = true
  | [], l, h => by simp [FV.ofScalars] at h; subst h; rfl
  | v :: r, l, h => by
    simp only [FV.ofScalars] at h
    split at h
    · rename_i x m h1 h2
      cases h
      have := (ofScalar_rel (F := fun _ _ => none) h1).2
      simp only [List.map_cons, List.all_cons, Bool.and_eq_true]
      exact ⟨by cases x <;> first | rfl | exact absurd rfl (this _), ofScalars_scalar h2⟩
    · cases h

theorem zeroT_scalar {P : Program} {T : TypeId} {z : FV} (h : zeroT P T = some z) : (z.cells.map AV.c).all AV.scalar = true := by
  unfold zeroT at h
  split at h
  · split at h
    · rename_i i hi v hv
      unfold FV.ofValue at h
      split at h
      · split at h
        · rename_i l hl
          cases h
          exact ofScalars_scalar hl
        · cases h
      · have h2 := (ofScalar_rel (F := fun _ _ => none) h).2
        cases z <;> first | rfl | exact absurd rfl (h2 _)
    · cases h
  · cases h

theorem zero_cells {P : Program} {T : TypeId} {z : FV} (h : zeroT P T = some z) (G : Gh) (w : World) :
    ∃ v, Sem.run P (zeroValue T) w = .ok v w ∧ RelL G (z.cells.map AV.c) v.cells.toList ∧ v.cells.toList.all oneCell = true := by
  obtain ⟨v, h1, h2⟩ := run_zeroValue P h G.F w
  obtain ⟨r1, r2⟩ := cells_rel (G := G) (v := .c z) (.c h2) (zeroT_scalar h)
  exact ⟨v, h1, r1, r2⟩

theorem mapM_sizes {P : Program} (w : World) : ∀ {fs : List Field}, (fs.all fun f => (szT P f.type).isSome) = true →
    Sem.run P (fs.mapM fun f => do pure (f.offset, ← sizeOf f.type)) w = .ok (fs.map fun f => (f.offset, (szT P f.type).getD 0)) w
  | [], _ => rfl
  | f :: r, h => by
    simp only [List.all_cons, Bool.and_eq_true] at h
    obtain ⟨n, hn⟩ := Option.isSome_iff_exists.1 h.1
    rw [List.mapM_cons]
    simp only [Sem.run_bind, run_sizeOf P hn, Result.andThen_ok, Sem.run_pure, mapM_sizes w h.2]
    simp [hn]

theorem build_sound {P : Program} {G : Gh} {t : TypeId} {z : FV} {ps : List (Nat × AV)} {qs : List (Nat × Value)} {cs : List AV} (hz : zeroT P t = some z) (hok : placesOk P t = true)
    (he : fillA (placeA P t) (z.cells.map .c) ps = some cs) (hl : ps.length = qs.length)
    (hp : ∀ (i : Nat) (p : Nat × AV) (q : Nat × Value), ps[i]? = some p → qs[i]? = some q → p.1 = q.1 ∧ RelA G p.2 q.2) (w : World) :
    ∃ x, Sem.run P (Instr.build t qs.toArray) w = .ok x w ∧ RelA G (mkAgg cs) x := by
  obtain ⟨zv, z1, z2, z3⟩ := zero_cells hz G w
  unfold placesOk at hok
  split at hok
  · rename_i fs hu
    have hpl : placeA P t = fun i => ((fs.map fun f => (f.offset, (szT P f.type).getD 0))[i]?) := by
      funext i
      simp only [placeA, hu, Array.getElem?_map]
      cases hf : fs[i]? with
      | none => rfl
      | some f =>
        have hm : f ∈ fs.toList := by
          have := Array.mem_of_getElem? hf
          simpa using this
        obtain ⟨n, hn⟩ := Option.isSome_iff_exists.1 (List.all_eq_true.1 hok f hm)
        simp [hn]
    rw [hpl] at he
    obtain ⟨us, u1, u2⟩ := fill_rel he z2 hl hp
    refine ⟨.agg us.toArray, ?_, mkAgg_rel u2⟩
    have hmm := mapM_sizes (P := P) w hok
    have hma : Sem.run P (fs.mapM fun f => do pure (f.offset, ← sizeOf f.type)) w = .ok (fs.map fun f => (f.offset, (szT P f.type).getD 0)) w := by
      rw [Array.mapM_eq_mapM_toList]
      simp only [Sem.run_map, hmm, Result.andThen_ok]
      congr 1
      apply Array.ext'
      simp
    simp only [Array.toArray_toList] at u1
    simp only [Instr.build, Sem.run_bind, z1, Result.andThen_ok, run_underlying P hu, hma]
    rw [u1]
    rfl
  · rename_i n e hu
    obtain ⟨s, hs⟩ := Option.isSome_iff_exists.1 hok
    have hpl : placeA P t = fun i => some (i * s, s) := by
      funext i
      simp [placeA, hu, hs]
    rw [hpl] at he
    obtain ⟨us, u1, u2⟩ := fill_rel he z2 hl hp
    refine ⟨.agg us.toArray, ?_, mkAgg_rel u2⟩
    simp only [Array.toArray_toList] at u1
    simp only [Instr.build, Sem.run_bind, z1, Result.andThen_ok, run_underlying P hu, run_sizeOf P hs]
    rw [u1]
    rfl
  · cases hok

theorem repCells_get {s : Nat} (zc : List AV) (hs : zc.length = s) (h0 : 0 < s) : ∀ (n i : Nat), i < n * s → (repCells n zc)[i]? = zc[i % s]?
  | 0, i, h => by omega
  | n + 1, i, h => by
    simp only [repCells]
    rw [List.getElem?_append]
    split
    · rename_i hi
      rw [Nat.mod_eq_of_lt (by omega)]
    · rename_i hi
      rw [repCells_get zc hs h0 n (i - zc.length) (by rw [Nat.add_mul] at h; omega), hs]
      congr 1
      rw [hs] at hi
      have : i = (i - s) + s := by omega
      conv => rhs; rw [this]
      rw [Nat.add_mod_right]

theorem repCells_length {s : Nat} (zc : List AV) (hs : zc.length = s) : ∀ n, (repCells n zc).length = n * s
  | 0 => by simp [repCells]
  | n + 1 => by simp only [repCells, List.length_append, repCells_length zc hs n, hs, Nat.add_mul]; omega

theorem rep_rel {G : Gh} {zc : List AV} {zv : Array Value} {s n : Nat} (h : RelL G zc zv.toList) (hs : zc.length = s) (h0 : 0 < s) :
    RelL G (repCells n zc) ((Array.range (n * s)).map (fun i => zv[i % zv.size]!)).toList := by
  have hzs : zv.size = s := by have := h.len; simp only [Array.length_toList] at this; omega
  refine ⟨by simp [repCells_length zc hs], ?_⟩
  intro i a b ha hb
  have hi : i < n * s := by
    have := (List.getElem?_eq_some_iff.1 ha).1
    rwa [repCells_length zc hs] at this
  rw [repCells_get zc hs h0 n i hi] at ha
  have hmod : i % s < s := Nat.mod_lt _ h0
  have hb' : b = zv[i % s]! := by
    simp [hi, hzs] at hb
    exact hb.symm
  have : zv.toList[i % s]? = some b := by
    rw [hb']
    simp [hzs, hmod]
  exact h.rel _ a b ha this

theorem elemT_spec {P : Program} {t e : TypeId} (h : elemT P t = some e) : P.underlying t = some (.slice e) := by
  unfold elemT at h
  split at h
  · rename_i hu; cases h; exact hu
  · cases h

theorem buildSlice_sound {P : Program} {G : Gh} {S : St} {w : World} (h : Inv G S w) {t e : TypeId} {z : FV} {n s : Nat} {ps : List (Nat × AV)} {qs : List (Nat × Value)} {cs : List AV}
    (hu : elemT P t = some e) (hs : szT P e = some s) (hz : zeroT P e = some z) (hn : n * s ≤ 16777216) (h0 : 0 < s) (hzl : z.cells.length = s)
    (he : fillA (fun i => some (i * s, s)) (repCells n (z.cells.map .c)) ps = some cs) (hsc : cs.all AV.scalar = true) (hl : ps.length = qs.length)
    (hp : ∀ (i : Nat) (p : Nat × AV) (q : Nat × Value), ps[i]? = some p → qs[i]? = some q → p.1 = q.1 ∧ RelA G p.2 q.2) :
    ∃ x G' w', Sem.run P (Instr.buildSlice t n qs.toArray) w = .ok x w' ∧ RelA G' (.sl S.next 0 n s true) x ∧ Inv G' (S.new (.blk cs 0 e)) w' ∧ Ext G S w G' (S.new (.blk cs 0 e)) w' := by
  obtain ⟨zv, z1, z2, z3⟩ := zero_cells hz G w
  have hzl' : (z.cells.map AV.c).length = s := by simpa using hzl
  have hrep := rep_rel (n := n) z2 hzl' h0
  obtain ⟨us, u1, u2⟩ := fill_rel he hrep hl hp
  simp only [Array.toArray_toList] at u1
  have hcl : cs.length = n * s := by
    have : ∀ {ps : List (Nat × AV)} {c c' : List AV}, fillA (fun i => some (i * s, s)) c ps = some c' → c'.length = c.length := by
      intro ps
      induction ps with
      | nil => intro c c' h; simp [fillA] at h; rw [h]
      | cons p ps ih =>
        intro c c' h
        obtain ⟨i, v⟩ := p
        simp only [fillA] at h
        split at h
        · rename_i hc
          rw [ih h, setRange_length _ _ _ (by omega)]
        · cases h
    rw [this he, repCells_length _ hzl']
  obtain ⟨G', k1, k2, k3⟩ := inv_new_blk h cs 0 us e e 0 0 (by rw [u2.len]; exact Nat.le_refl _) (fun i a ha => by
    obtain ⟨v, v1, v2⟩ := relL_cell u2 ha
    exact ⟨v, v1, v2, scalar_one v2 (List.all_eq_true.1 hsc a (List.mem_of_getElem? ha))⟩) (by intro j _; omega)
  refine ⟨.slice (some ⟨w.heap.size, 0, none⟩) n n, G', _, ?_, ?_, k1, k2⟩
  · have hlim : ¬ (n * s > 2 ^ 24) := by omega
    have hrow : ∀ (cells : Array Value) (w1 : World), Sem.run P (newRow e cells) w1 = .ok ⟨w1.heap.size, 0, none⟩ (wh w1 (w1.heap.push (.cells cells e (0, 0)))) := fun cells w1 => by
      simp [newRow, newObj, Sem.run, wh]
    simp only [Instr.buildSlice, Sem.run_bind, run_underlying P (elemT_spec hu), Result.andThen_ok, run_sizeOf P hs]
    rw [if_neg hlim]
    by_cases hz0 : n * s = 0
    · have hqs : n = 0 := by
        rcases Nat.mul_eq_zero.1 hz0 with h | h
        · exact h
        · omega
      subst hqs
      have e0 : ((Array.range (0 * s)).map fun i => zv.cells[i % zv.cells.size]!) = #[] := by simp
      rw [e0] at u1
      have e1 : ((Array.range (0 * s)).map fun i => (#[] : Array Value)[i % (#[] : Array Value).size]!) = #[] := by simp
      simp only [if_pos hz0, Sem.run_bind, Sem.run_pure, Result.andThen_ok]
      rw [e1, u1]
      simp [hrow]
    · simp only [hz0, if_false, Sem.run_bind, z1, Result.andThen_ok, Sem.run_pure]
      rw [u1]
      simp [hrow]
  · have hul : us.length = n * s := by rw [← u2.len, hcl]
    have := RelA.sl (G := G') (b := S.next) (off := 0) (len := n) (s := s) (full := true) (a := ⟨w.heap.size, 0, none⟩) (cap := n) k3 (fun _ => by simp) (Nat.le_refl _) (by simp only [hul]; omega) (fun _ => rfl) (by simp)
    exact this

end Go.Abs
