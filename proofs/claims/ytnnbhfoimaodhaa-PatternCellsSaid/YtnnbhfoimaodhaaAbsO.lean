/-
  The abstract machine, part O: copy, conversions, values that are built, maps, iterators, interfaces.
-/
import Derived.Test.YtnnbhfoimaodhaaAbsN
namespace Go.Abs
set_option linter.unusedVariables false
set_option linter.unusedSimpArgs false

theorem relL_of_take {G : Gh} {cs : List AV} {vs : List Value} (h : RelL G cs vs) (n : Nat) : RelL G (cs.take n) (vs.take n) := by simpa using relL_take h 0 n

theorem copy_sound {P : Program} {G : Gh} {S : St} {w : World} (h : Inv G S w) {t t' ty : TypeId} {x y v : AV} {vx vy : Value} {cm : List Cmd} (he : aCopy P t t' x y S = some (v, cm))
    (hx : RelA G x vx) (hy : RelA G y vy) :
    ∃ z w', Sem.run P (Builtin.copy_ #[t, t'] ty #[vx, vy]) w = .ok z w' ∧ RelA G v z ∧ Inv G (S.run cm) w' ∧ Ext G S w G (S.run cm) w' := by
  unfold aCopy at he
  split at he
  case h_2 => cases he
  rename_i e hu
  split at he
  case h_2 => cases he
  rename_i s u hs hu'
  split at he
  case h_2 => cases he
  rename_i new k hnew
  have hlen : Sem.run P (Builtin.lenOf vy) w = .ok k w ∧ (k * s = new.length → ∀ n, n ≤ k → ∃ vs : List Value, Sem.run P (Builtin.firstCells s n vy) w = .ok vs.toArray w ∧ RelL G (new.take (n * s)) vs ∧ vs.all oneCell = true) := by
    split at hnew
    · split at hnew
      · rename_i l
        simp only [Option.some.injEq, Prod.mk.injEq] at hnew
        obtain ⟨rfl, rfl⟩ := hnew
        have hr := reads_str (P := P) (w := w) hy
        refine ⟨hr.lenOf, fun hk n hn => ?_⟩
        have := readsArg (P := P) (S := S) (s := s) (str := true) (y := .c (.str l)) h (by simp) hk hy w rfl
        exact this.cells n hn
      · cases hnew
    · have hr := reads_row (P := P) h hnew hy
      exact ⟨hr.lenOf, fun _ n hn => hr.cells n hn⟩
  split at he
  · rename_i b off len s' full
    split at he
    case h_2 => cases he
    rename_i cs ro T hb
    simp only at he
    split at he
    case isFalse => cases he
    rename_i hc
    obtain ⟨rfl, hl, hro, hk⟩ := hc
    simp only [Option.some.injEq, Prod.mk.injEq] at he
    obtain ⟨rfl, rfl⟩ := he
    obtain ⟨h1, h2⟩ := hlen
    obtain ⟨vs, v1, v2, v3⟩ := h2 hk (min k len) (Nat.min_le_left _ _)
    cases hx with
    | @sl _ _ _ _ _ B a cap hB ha hlc hr hf hkn =>
      have hm : min k len * s' ≤ len * s' := Nat.mul_le_mul_right _ (Nat.min_le_right _ _)
      have htl : (new.take (min k len * s')).length ≤ len * s' := by simp; omega
      obtain ⟨w', k1, k2, k3⟩ := inv_write (P := P) h hb hB v2 v3 hro (by omega)
      refine ⟨.int .i64 (min k len : Nat), w', ?_, .c (.int _ _), k2, k3⟩
      have hst : Sem.run P (storeCells a vs) w = .ok () w' := by
        by_cases hcap : cap = 0
        · have : len = 0 := by omega
          have hv : vs = [] := List.eq_nil_of_length_eq_zero (by rw [← v2.len, this, Nat.min_zero]; simp)
          subst hv
          rw [run_storeNil] at k1 ⊢
          exact k1
        · rw [ha hcap]; exact k1
      have hmin : k.min len = min k len := rfl
      simp [Builtin.copy_, run_underlying P hu, h1, run_sizeOf P hs, hmin, v1, hst, goInt]
  · cases he

/-! ### Conversions -/
theorem bytesOf_spec : ∀ {cs : List AV} {l : List UInt8}, bytesOf cs = some l → ∃ ns : List Int, cs = ns.map (fun n => AV.c (.int .u8 n)) ∧ l = ns.map fun n => UInt8.ofNat n.toNat
  | [], l, h => by simp [bytesOf] at h; subst h; exact ⟨[], rfl, rfl⟩
  | x :: r, l, h => by
    unfold bytesOf at h
    split at h
    · rename_i hx; cases hx
    · rename_i n r' hx
      cases hx
      split at h
      · rename_i m hm
        cases h
        obtain ⟨ns, h1, h2⟩ := bytesOf_spec hm
        exact ⟨n :: ns, by simp [h1], by simp [h2]⟩
      · cases h
    · cases h

theorem relL_ints {G : Gh} : ∀ {ns : List Int} {vs : List Value}, RelL G (ns.map (fun n => AV.c (.int .u8 n))) vs → vs = ns.map (Value.int .u8)
  | [], vs, h => List.eq_nil_of_length_eq_zero (by simpa using h.len.symm)
  | n :: r, [], h => by have := h.len; simp at this
  | n :: r, v :: vs, h => by
    have h0 := h.rel 0 _ _ rfl rfl
    cases relA_c h0
    have := relL_ints (G := G) (ns := r) (vs := vs) ⟨by simpa using h.len, fun i a b ha hb => h.rel (i + 1) a b (by simpa using ha) (by simpa using hb)⟩
    simp [this]

theorem row_value {G : Gh} {S : St} {s k : Nat} {y : AV} {x : Value} {cs : List AV} (he : rowCells s S y = some (cs, k)) (hx : RelA G y x) :
    (x = .slice none 0 0 ∧ k = 0) ∨ ∃ a c, x = .slice (some a) k c := by
  unfold rowCells at he
  split at he
  · cases he
    cases relA_c hx
    exact .inl ⟨rfl, rfl⟩
  · split at he
    · simp only [Option.some.injEq, Prod.mk.injEq] at he
      obtain ⟨_, rfl⟩ := he
      cases relA_c hx with
      | sl0 a cap => exact .inr ⟨_, _, rfl⟩
      | sl => exact .inr ⟨_, _, rfl⟩
    · cases he
  · split at he
    · simp only [Option.some.injEq, Prod.mk.injEq] at he
      obtain ⟨_, rfl⟩ := he
      cases hx
      exact .inr ⟨_, _, rfl⟩
    · cases he
  · split at he
    · split at he
      · simp only [Option.some.injEq, Prod.mk.injEq] at he
        obtain ⟨_, rfl⟩ := he
        cases hx
        exact .inr ⟨_, _, rfl⟩
      · cases he
    · cases he
  · cases he

theorem wh_drew_heap (w : World) (h : Array Obj) : wh (drew w) h = { w with heap := h, drawn := w.drawn + 1 } := rfl

theorem conv_sound {P : Program} {G : Gh} {S : St} {w : World} (h : Inv G S w) {src dst : TypeId} {x v : AV} {vx : Value} {cm : List Cmd} (he : aConv P src dst x S = some (v, cm)) (hx : RelA G x vx) :
    ∃ z G' w', Sem.run P (convert src dst vx) w = .ok z w' ∧ RelA G' v z ∧ Inv G' (S.run cm) w' ∧ Ext G S w G' (S.run cm) w' := by
  unfold aConv at he
  split at he
  · rename_i u k hsrc hdst
    split at he
    · cases he
      cases relA_c hx
      exact ⟨_, G, w, by simp [convert, run_underlying P hsrc, run_underlying P hdst, Conv.intToInt], .c (.int _ _), h, .refl G S w⟩
    · cases he
  · rename_i u hsrc hdst
    split at he
    · cases he
      cases relA_c hx
      exact ⟨_, G, w, by simp [convert, run_underlying P hsrc, run_underlying P hdst, Conv.intToString], .c (.str _), h, .refl G S w⟩
    · cases he
      cases relA_c hx
      exact ⟨_, G, w, by simp [convert, run_underlying P hsrc, run_underlying P hdst], .c (.str _), h, .refl G S w⟩
    · split at he
      · rename_i e
        split at he
        · rename_i he8
          split at he
          · rename_i cs k hrow
            simp only [Option.map_eq_some_iff] at he
            obtain ⟨l, hl, hv⟩ := he
            cases hv
            have hr := reads_row (P := P) h hrow hx
            obtain ⟨ns, n1, n2⟩ := bytesOf_spec hl
            obtain ⟨vs, v1, v2, v3⟩ := hr.cells k (Nat.le_refl _)
            have htk : cs.take (k * 1) = cs := List.take_of_length_le (by have := hr.len; omega)
            rw [htk, n1] at v2
            have hvs := relL_ints v2
            subst hvs
            have hslice := row_value hrow hx
            have hres : RelA G (.c (.str l)) (.string (strOfNums ns)) := by
              rw [n2, ← strOfNums_data]; exact .c (.str _)
            rcases hslice with ⟨rfl, rfl⟩ | ⟨a, c, rfl⟩
            · have hn : ns = [] := by
                have := hr.len
                rw [n1] at this
                exact List.eq_nil_of_length_eq_zero (by simpa using this)
              subst hn
              exact ⟨_, G, w, run_convert_bytes_nil w src e hsrc he8 0 0 dst hdst, by rw [n2]; exact .c (.str ByteArray.empty), h, .refl G S w⟩
            · have hload : Sem.run P (loadCells a k) w = .ok (ns.map (Value.int .u8)).toArray w := by simpa [Builtin.firstCells] using v1
              refine ⟨.string (strOfNums ns), G, w, ?_, hres, h, .refl G S w⟩
              rw [run_convert_bytes_string w src dst e _ k c hsrc he8 hdst, run_bytesToString w a k c ns hload, foldl_push_bytes]
              simp [strOfNums, ByteArray.empty, ByteArray.emptyWithCapacity]
              rfl
          · cases he
        · cases he
      · cases he
  · rename_i u e hsrc hdst
    split at he
    · rename_i s he8 hsz
      split at he
      · rename_i hlen
        simp only [Option.some.injEq, Prod.mk.injEq] at he
        obtain ⟨rfl, rfl⟩ := he
        cases relA_c hx with
        | str bs =>
          have hb0 : bs.size = bs.data.toList.length := by rw [Array.length_toList]; rfl
          have hgc : bs.size ≤ grownCap w bs.size 0 e := Nat.le_add_right _ _
          have hrun := Lib.run_convert_string_bytes (P := P) w src dst e bs hsrc hdst he8
          have hbc : (Lib.bytesCells w e bs).toList = (bs.data.toList.map fun b => Value.int .u8 b.toNat) ++ List.replicate (grownCap w bs.size 0 e - bs.size) (.int .u8 0) := by
            simp [Lib.bytesCells]
          have hsz1 : (Lib.bytesCells w e bs).size = grownCap w bs.size 0 e := by
            rw [← Array.length_toList, hbc]; simp; omega
          have hw : Lib.bytesWorld w e bs = wh (drew w) (w.heap.push (.cells (Lib.bytesCells w e bs).toList.toArray e ((Lib.bytesCells w e bs).size, (Lib.bytesCells w e bs).size + 1))) := by
            have hh : (Lib.bytesWorld w e bs).heap = w.heap.push (.cells (Lib.bytesCells w e bs).toList.toArray e ((Lib.bytesCells w e bs).size, (Lib.bytesCells w e bs).size + 1)) := by
              apply Array.ext
              · rw [Lib.bytesWorld_size]; simp
              · intro j j1 j2
                rw [Lib.bytesWorld_size] at j1
                by_cases hj : j < w.heap.size
                · have e1 := Lib.bytesWorld_at_old w e bs j hj
                  have e2 : (Lib.bytesWorld w e bs).heap[j]? = some (Lib.bytesWorld w e bs).heap[j] := by simp
                  rw [e2] at e1
                  rw [Array.getElem_push_lt hj]
                  have e3 : w.heap[j]? = some w.heap[j] := by simp [hj]
                  rw [e3] at e1
                  exact Option.some.inj e1
                · have hje : j = w.heap.size := by omega
                  subst hje
                  have e1 := Lib.bytesWorld_at_new w e bs
                  have e2 : (Lib.bytesWorld w e bs).heap[w.heap.size]? = some (Lib.bytesWorld w e bs).heap[w.heap.size] := by simp [Lib.bytesWorld_size]
                  rw [e2] at e1
                  rw [Option.some.inj e1]
                  simp
            have : Lib.bytesWorld w e bs = wh (Lib.bytesWorld w e bs) (Lib.bytesWorld w e bs).heap := rfl
            rw [this, hh]
            rfl
          obtain ⟨G', k1, k2, k3⟩ := inv_new_blk h.drew (byteCells bs.data.toList) 0 (Lib.bytesCells w e bs).toList e e (Lib.bytesCells w e bs).size ((Lib.bytesCells w e bs).size + 1)
            (by have h1 := byteCells_length bs.data.toList; have h2 : (Lib.bytesCells w e bs).toList.length = grownCap w bs.size 0 e := by rw [Array.length_toList]; exact hsz1
                omega) (fun i a ha => by
              simp only [byteCells, List.getElem?_map, Option.map_eq_some_iff] at ha
              obtain ⟨b, hb, rfl⟩ := ha
              have hi : i < bs.data.toList.length := (List.getElem?_eq_some_iff.1 hb).1
              refine ⟨.int .u8 b.toNat, ?_, .c (.int _ _), rfl⟩
              rw [hbc, List.getElem?_append, if_pos (by simpa using hi), List.getElem?_map, hb]; rfl) (by intro j hj; rw [Array.length_toList] at hj; omega)
          refine ⟨_, G', _, by rw [hrun, hw]; rfl, ?_, k1, k2.drew_pre⟩
          rw [hb0] at *
          have hl1 : (byteCells bs.data.toList).length = bs.data.toList.length := byteCells_length _
          have := RelA.sl (G := G') (b := S.next) (off := 0) (len := bs.data.toList.length) (s := 1) (full := false) (a := ⟨w.heap.size, 0, none⟩) (cap := grownCap w bs.data.toList.length 0 e) k3
            (fun _ => by simp [drew]) hgc (by simp only [Array.length_toList, hsz1]; omega) (by simp) (fun _ => by simp only [hl1]; omega)
          exact this
      · cases he
    · cases he
  · cases he

end Go.Abs
