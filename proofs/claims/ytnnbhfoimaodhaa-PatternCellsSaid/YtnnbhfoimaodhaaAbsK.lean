/-
  The abstract machine, part K: rows that are read, append, copy.
-/
import Derived.Test.YtnnbhfoimaodhaaAbsJ
import Derived.Laws.Append
namespace Go.Abs
set_option linter.unusedVariables false
set_option linter.unusedSimpArgs false

theorem take_map_range {n : Nat} {l : List FV} (h : n ≤ l.length) : (l.map AV.c).take n = (l.take n).map AV.c := by simp

/-- The first cells of a row that is frozen. -/
theorem frozen_cells {G : Gh} {w : World} {l : List FV} {g o : Nat} {vals : Nat → Value} (hc : ∀ g o v, G.F g o = some v → w.cell? ⟨g, o, none⟩ = some v)
    (hF : ∀ (i : Nat) (a : FV), l[i]? = some a → G.F g (o + i) = some (vals i)) (hR : ∀ (i : Nat) (a : FV), l[i]? = some a → RelF G.F a (vals i))
    (ho : ∀ (i : Nat) (a : FV), l[i]? = some a → oneCell (vals i) = true) (n : Nat) (hn : n ≤ l.length) :
    ∃ vs : List Value, vs.length = n ∧ RelL G ((l.map AV.c).take n) vs ∧ vs.all oneCell = true ∧ ∀ j v, vs[j]? = some v → w.cell? ⟨g, o + j, none⟩ = some v := by
  refine ⟨(List.range n).map vals, by simp, ⟨by simp; omega, ?_⟩, ?_, ?_⟩
  · intro i a b ha hb
    rw [List.getElem?_take] at ha
    split at ha
    · rename_i hi
      simp only [List.getElem?_map, Option.map_eq_some_iff] at ha
      obtain ⟨a', ha', rfl⟩ := ha
      simp [hi] at hb
      subst hb
      exact .c (hR i a' ha')
    · cases ha
  · rw [List.all_eq_true]
    intro x hx
    simp only [List.mem_map, List.mem_range] at hx
    obtain ⟨i, hi, rfl⟩ := hx
    exact ho i l[i] (List.getElem?_eq_getElem (by omega))
  · intro j v hj
    have hjn : j < n := by
      rcases Nat.lt_or_ge j n with h | h
      · exact h
      · rw [List.getElem?_eq_none (by simpa using h)] at hj; cases hj
    simp [hjn] at hj
    subst hj
    exact hc _ _ _ (hF j l[j] (List.getElem?_eq_getElem (by omega)))

/-- What append and copy read of their last argument. -/
structure Reads (P : Program) (G : Gh) (w : World) (s : Nat) (cs : List AV) (k : Nat) (x : Value) : Prop where
  len : cs.length = k * s
  lenOf : Sem.run P (Builtin.lenOf x) w = .ok k w
  cells : ∀ n, n ≤ k → ∃ vs : List Value, Sem.run P (Builtin.firstCells s n x) w = .ok vs.toArray w ∧ RelL G (cs.take (n * s)) vs ∧ vs.all oneCell = true

theorem reads_row {P : Program} {G : Gh} {S : St} {w : World} (h : Inv G S w) {s : Nat} {y : AV} {x : Value} {cs : List AV} {k : Nat} (he : rowCells s S y = some (cs, k)) (hx : RelA G y x) :
    Reads P G w s cs k x := by
  unfold rowCells at he
  split at he
  · cases he
    cases relA_c hx
    exact ⟨by simp, rfl, fun n hn => ⟨[], rfl, ⟨by simp, fun i a b ha => by simp at ha⟩, rfl⟩⟩
  · rename_i xs
    split at he
    · rename_i hs
      simp only [Option.some.injEq, Prod.mk.injEq] at he
      obtain ⟨rfl, rfl⟩ := he
      have hsz := allSize_iff.1 hs
      have hfl : (flat xs).length = xs.length * s := by rw [flat_eq, List.length_map, flatF_length hsz]
      cases relA_c hx with
      | sl0 a cap => exact ⟨hfl, rfl, fun n hn => ⟨[], by
          have : n = 0 := by simpa using hn
          subst this
          simp [Builtin.firstCells, loadCells, loadCellsFrom], ⟨by simp [flat], fun i a b ha => by simp [flat] at ha⟩, rfl⟩⟩
      | sl _ g o s' cap vals hs' hcap hF hR ho =>
        refine ⟨hfl, rfl, fun n hn => ?_⟩
        have hle : n * s ≤ (flatF xs).length := by rw [flatF_length hsz]; exact Nat.mul_le_mul_right _ hn
        obtain ⟨vs, k1, k2, k3, k4⟩ := frozen_cells (G := G) (w := w) h.cells hF hR ho (n * s) hle
        refine ⟨vs, ?_, by rw [flat_eq]; exact k2, k3⟩
        have := run_loadCells P vs k4
        rw [k1] at this
        simpa [Builtin.firstCells] using this
    · cases he
  · rename_i tag xs
    split at he
    · rename_i hs
      simp only [Option.some.injEq, Prod.mk.injEq] at he
      obtain ⟨rfl, rfl⟩ := he
      have hsz := allSize_iff.1 hs
      have hfl : (flat xs).length = xs.length * s := by rw [flat_eq, List.length_map, flatF_length hsz]
      cases hx with
      | fz hτ hcap hs0 hs' hF hR ho =>
        refine ⟨hfl, rfl, fun n hn => ?_⟩
        have hle : n * s ≤ (flatF xs).length := by rw [flatF_length hsz]; exact Nat.mul_le_mul_right _ hn
        obtain ⟨vs, k1, k2, k3, k4⟩ := frozen_cells (G := G) (w := w) h.cells hF hR ho (n * s) hle
        refine ⟨vs, ?_, by rw [flat_eq]; exact k2, k3⟩
        have := run_loadCells P vs k4
        rw [k1] at this
        simpa [Builtin.firstCells] using this
    · cases he
  · rename_i b off len s' full
    split at he
    · rename_i bc ro T hb
      split at he
      · rename_i hc
        obtain ⟨rfl, hc2⟩ := hc
        simp only [Option.some.injEq, Prod.mk.injEq] at he
        obtain ⟨rfl, rfl⟩ := he
        cases hx with
        | @sl _ _ _ _ _ B a cap hB ha hl hr hf hk =>
          obtain ⟨B', hB', hkn, hroom, C, T', lo, hi, hC, hsz, hcell, hfz, hFz⟩ := h.obs b _ hb rfl
          rw [hB] at hB'
          cases hB'
          refine ⟨by simp; omega, rfl, fun n hn => ?_⟩
          have hns : n * s' ≤ len * s' := Nat.mul_le_mul_right _ hn
          have htake : (((bc.drop off).take (len * s')).take (n * s')) = (bc.drop off).take (n * s') := by rw [List.take_take]; congr 1; omega
          rw [htake]
          -- read the cells
          have hex : ∀ m, off + m ≤ bc.length → ∃ vs : List Value, vs.length = m ∧ RelL G ((bc.drop off).take m) vs ∧ vs.all oneCell = true ∧
              ∀ j v, vs[j]? = some v → w.cell? ⟨B.g, B.o + off + j, none⟩ = some v := by
            intro m hm
            refine ⟨(List.range m).map fun i => C.getD (B.o + off + i) undef, by simp, ⟨by simp; omega, ?_⟩, ?_, ?_⟩
            · intro i a' b' ha' hb'
              rw [List.getElem?_take] at ha'
              split at ha'
              · rename_i hi'
                rw [List.getElem?_drop] at ha'
                obtain ⟨v, v1, v2, v3⟩ := hcell (off + i) a' ha'
                simp [hi'] at hb'
                have e1 : B.o + off + i = B.o + (off + i) := by omega
                rw [e1, v1] at hb'
                simp at hb'
                subst hb'
                exact v2
              · cases ha'
            · rw [List.all_eq_true]
              intro x hx
              simp only [List.mem_map, List.mem_range] at hx
              obtain ⟨i, hi', rfl⟩ := hx
              obtain ⟨v, v1, v2, v3⟩ := hcell (off + i) bc[off + i] (List.getElem?_eq_getElem (by omega))
              have e1 : B.o + off + i = B.o + (off + i) := by omega
              rw [e1, Array.getD_eq_getD_getElem?, v1]
              exact v3
            · intro j v hj
              have hjn : j < m := by
                rcases Nat.lt_or_ge j m with h | h
                · exact h
                · rw [List.getElem?_eq_none (by simpa using h)] at hj; cases hj
              obtain ⟨u, v1, v2, v3⟩ := hcell (off + j) bc[off + j] (List.getElem?_eq_getElem (by omega))
              have e1 : B.o + off + j = B.o + (off + j) := by omega
              simp only [List.getElem?_map, List.getElem?_range hjn, Option.map_some, Option.some.injEq] at hj
              rw [cell_at hC, e1, v1]
              rw [← hj, e1, Array.getD_eq_getD_getElem?, v1]
              rfl
          obtain ⟨vs, k1, k2, k3, k4⟩ := hex (n * s') (by omega)
          refine ⟨vs, ?_, k2, k3⟩
          by_cases hcap : cap = 0
          · have hn0 : n = 0 := by omega
            subst hn0
            have : vs = [] := List.eq_nil_of_length_eq_zero (by simpa using k1)
            subst this
            simp [Builtin.firstCells, loadCells, loadCellsFrom]
          · have := run_loadCells P vs k4
            rw [k1] at this
            rw [ha hcap]
            simpa [Builtin.firstCells] using this
      · cases he
    · cases he
  · cases he

theorem byteCells_length (l : List UInt8) : (byteCells l).length = l.length := by simp [byteCells]

theorem reads_str {P : Program} {G : Gh} {w : World} {l : List UInt8} {x : Value} (hx : RelA G (.c (.str l)) x) : Reads P G w 1 (byteCells l) l.length x := by
  cases relA_c hx with
  | str s =>
    have hsz : s.size = s.data.toList.length := by rw [Array.length_toList]; rfl
    refine ⟨by simp [byteCells], by rw [← hsz]; rfl, fun n hn => ?_⟩
    refine ⟨((s.data.toList.take n).map fun b => .int .u8 b.toNat), ?_, ⟨by simp [byteCells], ?_⟩, ?_⟩
    · have : ((s.extract 0 n).data.map fun b => Value.int .u8 b.toNat) = (((s.data.toList.take n).map fun b => Value.int .u8 b.toNat)).toArray := by
        apply Array.ext'
        simp [ByteArray.data_extract, List.extract_eq_take_drop]
      simp only [Builtin.firstCells, this]
      rfl
    · intro i a b ha hb
      rw [Nat.mul_one] at ha
      simp only [byteCells, ← List.map_take, List.getElem?_map, Option.map_eq_some_iff] at ha hb
      obtain ⟨c, hc, rfl⟩ := ha
      obtain ⟨d, hd, rfl⟩ := hb
      rw [hc] at hd
      cases hd
      exact .c (.int _ _)
    · rw [List.all_eq_true]
      intro x hx
      obtain ⟨b, _, rfl⟩ := List.mem_map.1 hx
      rfl

end Go.Abs
