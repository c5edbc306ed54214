/-
  The abstract machine, part M: append and copy, all ways.
-/
import Derived.Test.YtnnbhfoimaodhaaAbsL
namespace Go.Abs
set_option linter.unusedVariables false
set_option linter.unusedSimpArgs false

theorem rel_one {G : Gh} {as : List AV} {vs : List Value} (h : RelL G as vs) (h1 : vs.all oneCell = true) (i : Nat) (a : AV) (ha : as[i]? = some a) :
    ∃ v, vs[i]? = some v ∧ RelA G a v ∧ oneCell v = true := by
  obtain ⟨v, k1, k2⟩ := relL_cell h ha
  exact ⟨v, k1, k2, List.all_eq_true.1 h1 v (List.mem_of_getElem? k1)⟩

theorem Ext.drew_pre {G G' : Gh} {S S' : St} {w w' : World} (h : Ext G S (Go.Abs.drew w) G' S' w') : Ext G S w G' S' w' := (Ext.drew G S w).trans h

/-- The row that an append makes where there was no room. -/
theorem grow_new {G : Gh} {S : St} {w : World} (h : Inv G S w) {as : List AV} {vs rest : List Value} {n s newCap zs ro : Nat} {e : TypeId} (hr : RelL G as vs) (h1 : vs.all oneCell = true)
    (hl : as.length = n * s) (hn : n ≤ newCap) (hz : zs = s) (hrest : rest.length = (newCap - n) * zs) :
    ∃ G', Inv G' (S.new (.blk as ro e)) (wh (Go.Abs.drew w) (w.heap.push (.cells (vs ++ rest).toArray e (0, 0)))) ∧
      Ext G S w G' (S.new (.blk as ro e)) (wh (Go.Abs.drew w) (w.heap.push (.cells (vs ++ rest).toArray e (0, 0)))) ∧
      RelA G' (.sl S.next 0 n s false) (.slice (some ⟨w.heap.size, 0, none⟩) n newCap) := by
  subst hz
  have hvl : vs.length = n * zs := by rw [← hr.len, hl]
  obtain ⟨G', k1, k2, k3⟩ := inv_new_blk h.drew as ro (vs ++ rest) e e 0 0 (by simp [hr.len]) (fun i a ha => by
    obtain ⟨v, v1, v2, v3⟩ := rel_one hr h1 i a ha
    have hi : i < vs.length := (List.getElem?_eq_some_iff.1 v1).1
    exact ⟨v, by rw [List.getElem?_append, if_pos hi]; exact v1, v2, v3⟩) (by intro j _; omega)
  refine ⟨G', k1, k2.drew_pre, ?_⟩
  have hroom : (vs ++ rest).length = newCap * zs := by
    rw [List.length_append, hvl, hrest, ← Nat.add_mul]; congr 1; omega
  have := RelA.sl (G := G') (b := S.next) (off := 0) (len := n) (s := zs) (full := false) (a := ⟨w.heap.size, 0, none⟩) (cap := newCap) k3 (fun _ => by simp [drew]) hn
    (by simp only [hroom]; omega) (by simp) (fun _ => by simp only [hl]; have := Nat.mul_le_mul_right zs hn; omega)
  exact this

theorem overL_nil (C : Array Value) (o : Nat) : overL C o [] = C := rfl

theorem run_storeNil (P : Program) (a : Addr) (w : World) : Sem.run P (storeCells a []) w = .ok () w := rfl

theorem append_sound {P : Program} {G : Gh} {S : St} {w : World} (h : Inv G S w) {t t' ty : TypeId} {x y v : AV} {vx vy : Value} {cm : List Cmd} (he : aAppend P t t' x y S = some (v, cm))
    (hx : RelA G x vx) (hy : RelA G y vy) :
    ∃ z G' w', Sem.run P (Builtin.append_ #[t, t'] ty #[vx, vy]) w = .ok z w' ∧ RelA G' v z ∧ Inv G' (S.run cm) w' ∧ Ext G S w G' (S.run cm) w' := by
  unfold aAppend at he
  split at he
  case h_2 => cases he
  rename_i e hu
  split at he
  case h_2 => cases he
  rename_i i str hi hstr
  obtain ⟨u, hu', hz⟩ := appU hstr
  split at he
  case h_2 => cases he
  rename_i new k hnew
  split at he
  · cases he
  rename_i hcond
  have hb0 : i.bytes ≠ 0 := fun e => hcond (.inl e)
  have hs0 : i.size ≠ 0 := fun e => hcond (.inr (.inl e))
  have hzero : i.zero.map (·.cells.size) = some i.size := Classical.byContradiction fun e => hcond (.inr (.inr (.inl e)))
  have hk : k * i.size = new.length := Classical.byContradiction fun e => hcond (.inr (.inr (.inr e)))
  obtain ⟨z, hz1, hz2⟩ := Option.map_eq_some_iff.1 hzero
  have hR := readsArg (P := P) h hnew hk hy
  obtain ⟨nv, hn1, hn2, hn3⟩ := (hR w rfl).cells k (Nat.le_refl _)
  have htk : new.take (k * i.size) = new := List.take_of_length_le (by omega)
  rw [htk] at hn2
  have hnl : nv.length = k * i.size := by rw [← hn2.len, hk]
  -- the other world's reading
  obtain ⟨dv, hd1, hd2, hd3⟩ := (hR w.drew rfl).cells k (Nat.le_refl _)
  rw [htk] at hd2
  have hdrop : ∀ (n : Nat) (l : List AV), l.length = n → l.take n = l := fun n l hl => List.take_of_length_le (by omega)
  split at he
  · -- nil
    cases relA_c hx
    split at he
    · rename_i hk0
      simp only [Option.some.injEq, Prod.mk.injEq] at he
      obtain ⟨rfl, rfl⟩ := he
      subst hk0
      exact ⟨_, G, w, append_room_run hu hi hu' hz (hR w rfl).lenOf hn1 (by simp) (fun a ha => by cases ha) (fun _ => rfl), .c .nils, h, .refl G S w⟩
    · rename_i hk0
      split at he
      · rename_i hmax
        simp only [Option.some.injEq, Prod.mk.injEq] at he
        obtain ⟨rfl, rfl⟩ := he
        obtain ⟨newCap, rest, c1, c2, c3⟩ := append_grow_run (ty := ty) (base := none) (sLen := 0) (sCap := 0) (old := []) hu hi hu' hz (hR w rfl).lenOf hd1 (by omega) (by simp [Builtin.firstCells]) hz1 hb0 (by simpa using hmax)
        obtain ⟨G', k1, k2, k3⟩ := grow_new h (ro := 0) (e := e) (n := k) (rest := rest) (newCap := newCap) hd2 hd3 hk.symm (by simpa using c1) hz2 (by simpa using c2)
        exact ⟨_, G', _, by simpa using c3, by simpa using k3, k1, k2⟩
      · cases he
  · -- a frozen row with its room
    rename_i tag xs
    have hxfull := hx
    cases hx with
    | @fz _ _ g o cap s vals hτ hcap hsp hs' hF hRl ho =>
    split at he
    · rename_i hk0
      simp only [Option.some.injEq, Prod.mk.injEq] at he
      obtain ⟨rfl, rfl⟩ := he
      subst hk0
      have hnv : nv = [] := List.eq_nil_of_length_eq_zero (by simpa using hnl)
      subst hnv
      exact ⟨_, G, w, append_room_run hu hi hu' hz (hR w rfl).lenOf hn1 (by simpa using hcap) (fun a ha => run_storeNil P _ w) (fun hh => by cases hh), .fz hτ hcap hsp hs' hF hRl ho, h, .refl G S w⟩
    · rename_i hk0
      split at he
      case isFalse => cases he
      rename_i hc
      obtain ⟨hsz, hmax, htag, hpos⟩ := hc
      simp only [Option.some.injEq, Prod.mk.injEq] at he
      obtain ⟨rfl, rfl⟩ := he
      have hsz' := allSize_iff.1 hsz
      have hss : i.size = s := by
        have hm : xs[0] ∈ xs := List.getElem_mem hpos
        rw [← hsz' _ hm, hs' _ hm]
      subst hss
      have htag' : tag ∈ S.spare := by simpa using htag
      obtain ⟨g', st, en, s', t1, ⟨C, T, lo, hi', t2, t3, t4⟩, t5, t6⟩ := h.spare tag htag'
      have t1' := t1
      rw [hτ] at t1
      simp only [Option.some.injEq, Prod.mk.injEq] at t1
      obtain ⟨rfl, rfl, rfl, rfl⟩ := t1
      have hfl : (flat xs).length = xs.length * i.size := by rw [flat_eq, List.length_map, flatF_length hs']
      have hg : g < w.heap.size := (Array.getElem?_eq_some_iff.1 t2).1
      by_cases hroom : xs.length + k ≤ cap
      · have hmul : (xs.length + k) * i.size ≤ cap * i.size := Nat.mul_le_mul_right _ hroom
        rw [Nat.add_mul] at hmul
        have hst := run_storeCells P nv (o + xs.length * i.size) 0 C w t2 (by omega) (fun j j1 j2 => t4 j (by omega) (by omega)) hn3
        rw [Nat.add_zero] at hst
        have hget : ∀ j, (overL C (o + xs.length * i.size) nv)[j]? = if o + xs.length * i.size ≤ j ∧ j < o + xs.length * i.size + nv.length then nv[j - (o + xs.length * i.size)]? else C[j]? :=
          fun j => overL_get nv _ C j (by omega)
        have hcell : ∀ j v, G.F g j = some v → (overL C (o + xs.length * i.size) nv)[j]? = some v := fun j v hj => by
          have := h.cells _ _ _ hj
          rw [cell_at t2] at this
          rw [hget, if_neg (by have := t5 j v hj; omega)]
          exact this
        obtain ⟨k1, k2, k3⟩ := inv_take h htag' t1' (.cells (overL C (o + xs.length * i.size) nv) T (lo, hi')) (fun j v hj => by
          rw [cell_at (wh_set_eq hg)]; exact hcell j v hj)
        have hle := Gh.le_bind (G := G) ⟨g, o, (flat xs ++ new).length, cap * i.size⟩ (k1.fresh S.next (Nat.le_refl _)).1
        obtain ⟨a1, a2, a3⟩ := inv_adopt k1 (.blk (flat xs ++ new) (xs.length * i.size) e) ⟨g, o, (flat xs ++ new).length, cap * i.size⟩ (by simpa [wh] using hg) k3 (by
          refine ⟨rfl, by simp only [List.length_append]; omega, _, T, lo, hi', wh_set_eq hg, by rw [overL_size]; omega, ?_, ?_, ?_⟩
          · intro j a ha
            rw [List.getElem?_append] at ha
            split at ha
            · rename_i hj
              rw [flat_eq, List.getElem?_map, Option.map_eq_some_iff] at ha
              obtain ⟨a', ha', rfl⟩ := ha
              exact ⟨vals j, hcell _ _ (hF j a' ha'), (RelA.c (hRl j a' ha')).mono hle, ho j a' ha'⟩
            · rename_i hj
              obtain ⟨v, v1, v2, v3⟩ := rel_one hn2 hn3 _ a ha
              have hv : j - (flat xs).length < nv.length := (List.getElem?_eq_some_iff.1 v1).1
              refine ⟨v, ?_, v2.mono hle, v3⟩
              show (overL C (o + xs.length * i.size) nv)[o + j]? = some v
              rw [hget, if_pos (by omega)]
              have : o + j - (o + xs.length * i.size) = j - (flat xs).length := by omega
              rw [this]; exact v1
          · intro j j1 j2
            exact t4 j j1 j2
          · intro j v hj
            exact t5 j v hj)
        refine ⟨_, _, _, append_room_run hu hi hu' hz (hR w rfl).lenOf hn1 hroom (w1 := wh w (w.heap.setIfInBounds g (.cells (overL C (o + xs.length * i.size) nv) T (lo, hi')))) (fun a ha => by
          cases ha
          rw [Addr_add]; exact hst) (fun hh => by cases hh), ?_, a1, Ext.adopt (G1 := G.bind S.next ⟨g, o, (flat xs ++ new).length, cap * i.size⟩) k2 a2 (Nat.le_succ _) (.inr ⟨tag, htag', _, t1'⟩) a3⟩
        exact RelA.sl (a := ⟨g, o, none⟩) (cap := cap) (Gh.bind_self G S.next _) (fun _ => by simp) hroom (by simp) (by simp) (fun _ => by simp only [List.length_append]; omega)
      · obtain ⟨k1, k2, k3⟩ := inv_take h htag' t1' w.heap[g] (fun j v hj => by
          have e1 : w.heap.setIfInBounds g w.heap[g] = w.heap := by
            apply Array.ext
            · simp
            · intro j h1 h2
              by_cases hj : g = j
              · subst hj; simp
              · rw [Array.getElem_setIfInBounds (by simpa using h1)]; simp [hj]
          rw [e1]; exact h.cells _ _ _ hj)
        have e1 : wh w (w.heap.setIfInBounds g w.heap[g]) = w := by
          have : w.heap.setIfInBounds g w.heap[g] = w.heap := by
            apply Array.ext
            · simp
            · intro j h1 h2
              by_cases hj : g = j
              · subst hj; simp
              · rw [Array.getElem_setIfInBounds (by simpa using h1)]; simp [hj]
          rw [this]; rfl
        rw [e1] at k1 k2
        have hRx := reads_row (P := P) (reads_heap h w.drew rfl) (s := i.size) (y := .fz tag xs) (cs := flat xs) (k := xs.length) (by simp [rowCells, hsz]) hxfull
        obtain ⟨ov, o1, o2, o3⟩ := hRx.cells xs.length (Nat.le_refl _)
        rw [hdrop _ _ hfl] at o2
        obtain ⟨newCap, rest, c1, c2, c3⟩ := append_grow_run (ty := ty) (base := some ⟨g, o, none⟩) (sLen := xs.length) (sCap := cap) hu hi hu' hz (hR w rfl).lenOf hd1 (by omega) o1 hz1 hb0 hmax
        obtain ⟨G', m1, m2, m3⟩ := grow_new k1 (ro := xs.length * i.size) (e := e) (n := xs.length + k) (rest := rest) (newCap := newCap) (relL_append o2 hd2) (by rw [List.all_append, o3, hd3]; rfl) (by rw [List.length_append, hfl, ← hk, Nat.add_mul]) c1 hz2 c2
        exact ⟨_, G', _, c3, m3, m1, k2.trans m2⟩
  · -- a row of the state
    rename_i b off len s full
    have hxfull := hx
    cases hx with
    | @sl _ _ _ _ _ B a cap hB ha hl hr hf hkn =>
    split at he
    · rename_i hk0
      simp only [Option.some.injEq, Prod.mk.injEq] at he
      obtain ⟨rfl, rfl⟩ := he
      subst hk0
      have hnv : nv = [] := List.eq_nil_of_length_eq_zero (by simpa using hnl)
      subst hnv
      exact ⟨_, G, w, append_room_run hu hi hu' hz (hR w rfl).lenOf hn1 (by simpa using hl) (fun a ha => run_storeNil P _ w) (fun hh => by cases hh), .sl hB ha hl hr hf hkn, h, .refl G S w⟩
    · rename_i hk0
      split at he
      case h_2 => cases he
      rename_i cs ro T hb
      split at he
      case isFalse => cases he
      rename_i hc
      obtain ⟨hss, hmax, hlen⟩ := hc
      subst hss
      obtain ⟨B', hB', hknl, hroomB, C, T', lo, hi', hC, hsz, hcell, hfz, hFz⟩ := h.obs b _ hb rfl
      rw [hB] at hB'
      cases hB'
      have hg : B.g < w.heap.size := (Array.getElem?_eq_some_iff.1 hC).1
      have hcsl : ((cs.drop off).take (len * i.size)).length = len * i.size := by simp; omega
      have hgrow : ∀ {S1 : St} {ro' : Nat}, Inv G S1 w → Ext G S w G S1 w → cap < len + k → ∃ z G' w', Sem.run P (Builtin.append_ #[t, t'] ty #[.slice (some a) len cap, vy]) w = .ok z w' ∧
          RelA G' (.sl S1.next 0 (len + k) i.size false) z ∧ Inv G' (S1.new (.blk ((cs.drop off).take (len * i.size) ++ new) ro' e)) w' ∧
          Ext G S w G' (S1.new (.blk ((cs.drop off).take (len * i.size) ++ new) ro' e)) w' := by
        intro S1 ro' hS1 hE1 hcap
        have hRx := reads_row (P := P) (reads_heap h w.drew rfl) (s := i.size) (y := .sl b off len i.size full) (cs := (cs.drop off).take (len * i.size)) (k := len) (by simp [rowCells, hb, hlen]) hxfull
        obtain ⟨ov, o1, o2, o3⟩ := hRx.cells len (Nat.le_refl _)
        rw [hdrop _ _ hcsl] at o2
        obtain ⟨newCap, rest, c1, c2, c3⟩ := append_grow_run (ty := ty) (base := some a) (sLen := len) (sCap := cap) hu hi hu' hz (hR w rfl).lenOf hd1 hcap o1 hz1 hb0 hmax
        obtain ⟨G', m1, m2, m3⟩ := grow_new hS1 (ro := ro') (e := e) (n := len + k) (rest := rest) (newCap := newCap) (relL_append o2 hd2) (by rw [List.all_append, o3, hd3]; rfl) (by rw [List.length_append, hcsl, ← hk, Nat.add_mul]) c1 hz2 c2
        exact ⟨_, G', _, c3, m3, m1, hE1.trans m2⟩
      split at he
      · -- no room at all
        rename_i hfull
        simp only [Option.some.injEq, Prod.mk.injEq] at he
        obtain ⟨rfl, rfl⟩ := he
        exact hgrow h (.refl G S w) (by have := hf hfull; omega)
      · rename_i hfull
        have hfull' : full = false := by simpa using hfull
        have hkn' := hkn hfull'
        split at he
        case isFalse => cases he
        rename_i hro
        split at he
        · -- within what is known
          rename_i hin
          simp only [Option.some.injEq, Prod.mk.injEq] at he
          obtain ⟨rfl, rfl⟩ := he
          have hcap : len + k ≤ cap := by
            have h1 : (len + k) * i.size ≤ cap * i.size := by omega
            exact Nat.le_of_mul_le_mul_right h1 (by omega)
          have hcap0 : cap ≠ 0 := by omega
          have hmul : (len + k) * i.size = len * i.size + k * i.size := Nat.add_mul ..
          obtain ⟨w', k1, k2, k3⟩ := inv_write (P := P) h hb hB hn2 hn3 hro (by omega)
          refine ⟨_, G, w', append_room_run hu hi hu' hz (hR w rfl).lenOf hn1 hcap (w1 := w') (fun a' ha' => by
            cases ha'
            rw [ha hcap0, Addr_add, Nat.add_assoc]; exact k1) (fun hh => by cases hh), .sl hB ha hcap hr (by simp) (fun _ => hkn'), k2, k3⟩
        · -- it may lie where it lay, or not
          rename_i hin
          simp only [Option.some.injEq, Prod.mk.injEq] at he
          obtain ⟨rfl, rfl⟩ := he
          have hmul : (len + k) * i.size = len * i.size + k * i.size := Nat.add_mul ..
          by_cases hroom : len + k ≤ cap
          · have hcap0 : cap ≠ 0 := by omega
            have hcm : (len + k) * i.size ≤ cap * i.size := Nat.mul_le_mul_right _ hroom
            have hst := run_storeCells P nv (B.o + off + len * i.size) 0 C w hC (by omega) (fun j j1 j2 => hfz j (by omega) (by omega)) hn3
            rw [Nat.add_zero] at hst
            have hget : ∀ j, (overL C (B.o + off + len * i.size) nv)[j]? = if B.o + off + len * i.size ≤ j ∧ j < B.o + off + len * i.size + nv.length then nv[j - (B.o + off + len * i.size)]? else C[j]? :=
              fun j => overL_get nv _ C j (by omega)
            have hcell' : ∀ j v, G.F B.g j = some v → (overL C (B.o + off + len * i.size) nv)[j]? = some v := fun j v hj => by
              have := h.cells _ _ _ hj
              rw [cell_at hC] at this
              rw [hget, if_neg (by have := hFz j v hj; omega)]
              exact this
            obtain ⟨k1, k2, k3⟩ := inv_kill h hb rfl hB (.cells (overL C (B.o + off + len * i.size) nv) T' (lo, hi')) (fun j v hj => by
              rw [cell_at (wh_set_eq hg)]; exact hcell' j v hj)
            have hle := Gh.le_bind (G := G) ⟨B.g, B.o + off, ((cs.drop off).take (len * i.size) ++ new).length, B.room - off⟩ (k1.fresh (S.del b).next (Nat.le_refl _)).1
            obtain ⟨a1, a2, a3⟩ := inv_adopt k1 (.blk ((cs.drop off).take (len * i.size) ++ new) (ro - off) e) ⟨B.g, B.o + off, ((cs.drop off).take (len * i.size) ++ new).length, B.room - off⟩ (by simpa [wh] using hg) k3 (by
              refine ⟨rfl, by simp only [List.length_append, hcsl]; omega, _, T', lo, hi', wh_set_eq hg, by rw [overL_size]; simp only; omega, ?_, ?_, ?_⟩
              · intro j x hx
                rw [List.getElem?_append] at hx
                split at hx
                · rename_i hj
                  rw [hcsl] at hj
                  rw [List.getElem?_take, if_pos hj, List.getElem?_drop] at hx
                  obtain ⟨v, v1, v2, v3⟩ := hcell (off + j) x hx
                  refine ⟨v, ?_, v2.mono hle, v3⟩
                  show (overL C (B.o + off + len * i.size) nv)[B.o + off + j]? = some v
                  rw [hget, if_neg (by omega), Nat.add_assoc]; exact v1
                · rename_i hj
                  rw [hcsl] at hj hx
                  obtain ⟨v, v1, v2, v3⟩ := rel_one hn2 hn3 _ x hx
                  have hv : j - len * i.size < nv.length := (List.getElem?_eq_some_iff.1 v1).1
                  refine ⟨v, ?_, v2.mono hle, v3⟩
                  show (overL C (B.o + off + len * i.size) nv)[B.o + off + j]? = some v
                  rw [hget, if_pos (by omega)]
                  have : B.o + off + j - (B.o + off + len * i.size) = j - len * i.size := by omega
                  rw [this]; exact v1
              · intro j j1 j2
                simp only at j1 j2
                exact hfz j (by omega) (by omega)
              · intro j v hj
                have := hFz j v hj
                simp only; omega)
            refine ⟨_, _, _, append_room_run hu hi hu' hz (hR w rfl).lenOf hn1 hroom (w1 := wh w (w.heap.setIfInBounds B.g (.cells (overL C (B.o + off + len * i.size) nv) T' (lo, hi')))) (fun a' ha' => by
              cases ha'
              rw [ha hcap0, Addr_add]; exact hst) (fun hh => by cases hh), ?_, a1, Ext.adopt (G1 := G.bind (S.del b).next ⟨B.g, B.o + off, ((cs.drop off).take (len * i.size) ++ new).length, B.room - off⟩) k2 a2 (Nat.le_succ _) (.inl ⟨b, _, B, hb, rfl, hB, rfl⟩) a3⟩
            exact RelA.sl (a := a) (cap := cap) (Gh.bind_self G (S.del b).next _) (fun h0 => by rw [ha h0]; simp) hroom (by simp only; omega) (by simp) (fun _ => by simp only [List.length_append, hcsl]; omega)
          · obtain ⟨d1, d2, d3⟩ := inv_del h hb rfl hB
            exact hgrow d1 d2 (by omega)
  · cases he

end Go.Abs
