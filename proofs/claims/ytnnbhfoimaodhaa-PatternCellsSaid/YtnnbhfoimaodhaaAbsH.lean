/-
  The abstract machine, part H: stores, new variables, places; one operation after the other against the model's.
-/
import Derived.Test.YtnnbhfoimaodhaaAbsG
namespace Go.Abs
set_option linter.unusedVariables false
set_option linter.unusedSimpArgs false

theorem setRange_get (cs : List AV) (off : Nat) (vs : List AV) (h : off + vs.length ≤ cs.length) (i : Nat) :
    (setRange cs off vs)[i]? = if off ≤ i ∧ i < off + vs.length then vs[i - off]? else cs[i]? := by
  unfold setRange
  have h1 : (cs.take off).length = off := by simp; omega
  by_cases a : i < off
  · rw [if_neg (by omega), List.append_assoc, List.getElem?_append, if_pos (by rw [h1]; exact a), List.getElem?_take, if_pos a]
  · by_cases b : i < off + vs.length
    · rw [if_pos ⟨by omega, b⟩, List.append_assoc, List.getElem?_append, if_neg (by rw [h1]; exact a), h1, List.getElem?_append, if_pos (by omega)]
    · rw [if_neg (by omega), List.append_assoc, List.getElem?_append, if_neg (by rw [h1]; exact a), h1, List.getElem?_append, if_neg (by omega), List.getElem?_drop]
      congr 1
      omega

theorem setRange_length (cs : List AV) (off : Nat) (vs : List AV) (h : off + vs.length ≤ cs.length) : (setRange cs off vs).length = cs.length := by
  simp [setRange]; omega

/-- Cells written in a live row. -/
theorem inv_write {P : Program} {G : Gh} {S : St} {w : World} (h : Inv G S w) {b ro off : Nat} {T : TypeId} {cs as : List AV} {B : Base} {vs : List Value}
    (hb : S.get b = some (.blk cs ro T)) (hB : G.ρ b = some B) (hr : RelL G as vs) (h1 : vs.all oneCell = true) (hro : ro ≤ off) (hlen : off + as.length ≤ cs.length) :
    ∃ w', Sem.run P (storeCells ⟨B.g, B.o + off, none⟩ vs) w = .ok () w' ∧ Inv G (S.put b (.blk (setRange cs off as) ro T)) w' ∧ Ext G S w G (S.put b (.blk (setRange cs off as) ro T)) w' := by
  obtain ⟨B', hB', hkn, hroom, C, T', lo, hi, hC, hsz, hcell, hfz, hFz⟩ := h.obs b _ hb rfl
  rw [hB] at hB'
  cases hB'
  have hg : B.g < w.heap.size := (Array.getElem?_eq_some_iff.1 hC).1
  have hl : vs.length = as.length := hr.len.symm
  have hrun := run_storeCells P vs (B.o + off) 0 C w hC (by omega) (fun j h1 h2 => hfz j (by omega) (by omega)) h1
  rw [Nat.add_zero] at hrun
  have hget : ∀ j, (overL C (B.o + off) vs)[j]? = if B.o + off ≤ j ∧ j < B.o + off + vs.length then vs[j - (B.o + off)]? else C[j]? :=
    fun j => overL_get vs (B.o + off) C j (by omega)
  obtain ⟨k1, k2⟩ := inv_upd h hb rfl (ob := .blk (setRange cs off as) ro T) rfl hB (.cells (overL C (B.o + off) vs) T' (lo, hi)) (by
    refine ⟨by rw [setRange_length _ _ _ hlen]; exact hkn, by rw [setRange_length _ _ _ hlen]; exact hroom, _, T', lo, hi, wh_set_eq hg, by rw [overL_size]; exact hsz, ?_, hfz, hFz⟩
    intro i a ha
    rw [setRange_get _ _ _ hlen] at ha
    rw [hget]
    split at ha
    · rename_i hi'
      obtain ⟨x, hx, hrx⟩ := relL_cell hr ha
      refine ⟨x, ?_, hrx, ?_⟩
      · rw [if_pos (by omega)]
        have : B.o + i - (B.o + off) = i - off := by omega
        rw [this]; exact hx
      · exact List.all_eq_true.1 h1 x (List.mem_of_getElem? hx)
    · rename_i hi'
      rw [if_neg (by omega)]
      exact hcell i a ha) (by
    intro j v hj
    have := h.cells _ _ _ hj
    rw [cell_at hC] at this
    rw [cell_at (wh_set_eq hg), hget, if_neg (by have := hFz j v hj; omega)]
    exact this)
  exact ⟨_, hrun, k1, k2⟩

theorem Inv.marked {G : Gh} {S : St} {w : World} (h : Inv G S w) (b : Nat) : Inv G (S.mark b) w :=
  ⟨h.wf, h.cells, h.obs, h.apart, h.spare, h.tags, h.nodup, h.fresh, h.born⟩

theorem Ext.marked {G G' : Gh} {S S' : St} {w w' : World} (h : Ext G S w G' S' w') (b : Nat) : Ext G S w G' (S'.mark b) w' :=
  ⟨h.le, h.next, h.size, h.same, h.own, h.os, h.tape, h.output⟩

theorem store_sound {P : Program} {G : Gh} {S : St} {w : World} (h : Inv G S w) {t : TypeId} {a v : AV} {xa xv : Value} {cm : List Cmd} (he : aStore P t a v S = some cm)
    (ha : RelA G a xa) (hv : RelA G v xv) : ∃ w', Sem.run P (Instr.storeAt t xa xv) w = .ok () w' ∧ Inv G (S.run cm) w' ∧ Ext G S w G (S.run cm) w' := by
  unfold aStore at he
  split at he
  · rename_i b off
    split at he
    · rename_i cs ro T n hb hn
      split at he
      · rename_i hc
        obtain ⟨c1, c2, c3, c4⟩ := hc
        cases ha with
        | @ref _ _ B hB =>
          obtain ⟨r1, r2⟩ := cells_rel hv c2
          have hlen : xv.cells.size = n := by have := r1.len; simp only [Array.length_toList] at this; omega
          obtain ⟨w', k1, k2, k3⟩ := inv_write (P := P) h hb hB r1 r2 c4 (by omega)
          refine ⟨w', ?_, ?_⟩
          · simp [Instr.storeAt, Instr.sureAddr, storeVar, run_sizeOf P hn, hlen, k1]
          · simp only [Option.some.injEq] at he
            subst he
            exact ⟨k2, k3⟩
      · cases he
    · cases he
  · cases he

theorem run_newVar (P : Program) (t : TypeId) (v : Value) (w : World) :
    Sem.run P (newVar t v) w = .ok ⟨w.heap.size, 0, none⟩ (wh w (w.heap.push (.cells v.cells t))) := by
  simp [newVar, newRow, newObj, Sem.run, wh]

theorem new_sound {P : Program} {G : Gh} {S : St} {w : World} (h : Inv G S w) {t : TypeId} {v : AV} {xv : Value} {r : AV × List Cmd} (he : aNew P t v S = some r)
    (hv : RelA G v xv) : ∃ G' w', Sem.run P (newVar t xv) w = .ok ⟨w.heap.size, 0, none⟩ w' ∧ RelA G' r.1 (.pointer (some ⟨w.heap.size, 0, none⟩)) ∧ Inv G' (S.run r.2) w' ∧ Ext G S w G' (S.run r.2) w' := by
  unfold aNew at he
  split at he
  · rename_i hs
    simp only [Option.some.injEq] at he
    subst he
    obtain ⟨r1, r2⟩ := cells_rel hv hs
    obtain ⟨G', k1, k2, k3⟩ := inv_new_blk h v.cells 0 xv.cells.toList t t 0 0 (by rw [r1.len]; exact Nat.le_refl _) (fun i a ha => by
      obtain ⟨x, hx, hrx⟩ := relL_cell r1 ha
      exact ⟨x, hx, hrx, List.all_eq_true.1 r2 x (List.mem_of_getElem? hx)⟩) (by intro j _; omega)
    refine ⟨G', _, run_newVar P t xv w, ?_, by simpa [St.run, St.cmd] using k1, by simpa [St.run, St.cmd] using k2⟩
    have := RelA.ref (G := G') (b := S.next) (off := 0) k3
    simpa using this
  · cases he

theorem load_sound {P : Program} {G : Gh} {S : St} {w : World} (h : Inv G S w) {t : TypeId} {a v : AV} {xa : Value} (he : aLoad P t a S = some v)
    (ha : RelA G a xa) : ∃ x, Sem.run P (Instr.loadAt t xa) w = .ok x w ∧ RelA G v x := by
  unfold aLoad at he
  split at he
  · rename_i b off
    split at he
    · rename_i cs ro T hb
      cases ha with
      | @ref _ _ B hB =>
        obtain ⟨B', hB', hkn, hroom, C, T', lo, hi, hC, hsz, hcell, hfz, hFz⟩ := h.obs b _ hb rfl
        rw [hB] at hB'
        cases hB'
        obtain ⟨x, k1, k2⟩ := run_loadVar (P := P) (G := G) (w := w) (g := B.g) (o := B.o) he (fun i a ha => by
          obtain ⟨y, y1, y2, _⟩ := hcell i a ha
          exact ⟨y, by rw [cell_at hC]; exact y1, y2⟩)
        exact ⟨x, by simp [Instr.loadAt, Instr.sureAddr, k1], k2⟩
    · cases he
  · rename_i e off
    cases ha with
    | @fref _ _ g o vals hF hR =>
      obtain ⟨x, k1, k2⟩ := run_loadVar (P := P) (G := G) (w := w) (g := g) (o := o) he (fun i a ha => by
        simp only [List.getElem?_map, Option.map_eq_some_iff] at ha
        obtain ⟨a', ha', rfl⟩ := ha
        exact ⟨vals i, h.cells _ _ _ (hF i a' ha'), .c (hR i a' ha')⟩)
      exact ⟨x, by simp [Instr.loadAt, Instr.sureAddr, k1], k2⟩
  · cases he

theorem run_zeroValue (P : Program) {T : TypeId} {z : FV} (h : zeroT P T = some z) (F : Nat → Nat → Option Value) (w : World) :
    ∃ v, Sem.run P (zeroValue T) w = .ok v w ∧ RelF F z v := by
  unfold zeroT at h
  split at h
  · rename_i i hi
    split at h
    · rename_i v hv
      exact ⟨v, by simp [zeroValue, run_typeInfo P hi, hv], ofValue_rel h⟩
    · cases h
  · cases h

theorem alloc_sound {P : Program} {G : Gh} {S : St} {w : World} (h : Inv G S w) {t : TypeId} {z : FV} {r : AV × List Cmd} (hz : zeroT P t = some z) (he : aNew P t (.c z) S = some r) :
    ∃ x G' w', Sem.run P (Instr.alloc t true (.tuple #[])) w = .ok x w' ∧ RelA G' r.1 x ∧ Inv G' (S.run r.2) w' ∧ Ext G S w G' (S.run r.2) w' := by
  obtain ⟨v, hv, hr⟩ := run_zeroValue P hz G.F w
  obtain ⟨G', w', k1, k2, k3, k4⟩ := new_sound (P := P) h he (.c hr)
  exact ⟨_, G', w', by simp [Instr.alloc, hv, k1], k2, k3, k4⟩

theorem fieldT_spec {P : Program} {T X : TypeId} {f d : Nat} (h : fieldT P T f = some (X, d)) : ∃ fs x, P.underlying T = some (.struct fs) ∧ fs[f]? = some x ∧ x.type = X ∧ x.offset = d := by
  unfold fieldT at h
  split at h
  · rename_i fs hu
    split at h
    · rename_i x hx
      simp at h
      exact ⟨fs, x, hu, hx, h.1, h.2⟩
    · cases h
  · cases h

theorem fieldAt_run {P : Program} {T X : TypeId} {f d n g o : Nat} (h : fieldT P T f = some (X, d)) (hn : szT P X = some (n + 1)) (w : World) :
    Sem.run P (Instr.fieldAt T (.pointer (some ⟨g, o, none⟩)) f) w = .ok (.pointer (some ⟨g, o + d, none⟩)) w := by
  obtain ⟨fs, x, h1, h2, h3, h4⟩ := fieldT_spec h
  subst h3; subst h4
  simp [Instr.fieldAt, run_underlying P h1, h2, Instr.sureAddr, fieldPlace, run_sizeOf P hn, Addr_add]

theorem field_sound {P : Program} {G : Gh} {T X : TypeId} {f d : Nat} {cs : List AV} {vs : List Value} {v : AV} (h : fieldT P T f = some (X, d)) (he : partOf P X cs d = some v)
    (hr : RelL G cs vs) (w : World) : ∃ x, Sem.run P (Instr.field T (.agg vs.toArray) f) w = .ok x w ∧ RelA G v x := by
  obtain ⟨fs, x, h1, h2, h3, h4⟩ := fieldT_spec h
  subst h3; subst h4
  obtain ⟨y, k1, k2⟩ := run_part (P := P) he hr w
  exact ⟨y, by simp [Instr.field, run_underlying P h1, h2, asAgg, k1], k2⟩

theorem agg_rel_of {G : Gh} {l : List FV} {x : Value} (h : RelA G (.c (.agg l)) x) : ∃ vs : List Value, x = .agg vs.toArray ∧ RelL G (l.map .c) vs := by
  cases relA_c h with
  | agg cs vs hl hr =>
    refine ⟨vs, rfl, by simpa using hl, ?_⟩
    intro i a b ha hb
    simp only [List.getElem?_map, Option.map_eq_some_iff] at ha
    obtain ⟨a', ha', rfl⟩ := ha
    exact .c (hr i a' b ha' hb)

end Go.Abs
