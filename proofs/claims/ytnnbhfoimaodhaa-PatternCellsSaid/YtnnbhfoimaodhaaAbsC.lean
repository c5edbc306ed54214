/-
  The abstract machine, part C: loads and stores of GoSem's world, in the form that the abstract machine wants.
-/
import Derived.Test.YtnnbhfoimaodhaaAbsB
import Derived.Laws.Sem
namespace Go.Abs
set_option linter.unusedVariables false
set_option linter.unusedSimpArgs false

/-- A world with another heap. -/
def wh (w : World) (h : Array Obj) : World := { w with heap := h }

theorem wh_heap (w : World) (h : Array Obj) : (wh w h).heap = h := rfl
theorem wh_self (w : World) : wh w w.heap = w := rfl
theorem wh_wh (w : World) (h k : Array Obj) : wh (wh w h) k = wh w k := rfl

def oneCell (v : Value) : Bool :=
  match v with
  | .agg _ | .tuple _ => false
  | _ => true

theorem Addr_add (g o n : Nat) : (⟨g, o, none⟩ : Addr).add n = ⟨g, o + n, none⟩ := by
  unfold Addr.add; split <;> simp_all

theorem cell_at {w : World} {g : Nat} {C : Array Value} {T : TypeId} {fr : Nat × Nat} (h : w.heap[g]? = some (.cells C T fr)) (i : Nat) :
    w.cell? ⟨g, i, none⟩ = C[i]? := by simp [World.cell?, h]

theorem frozen_at {w : World} {g : Nat} {C : Array Value} {T : TypeId} {lo hi : Nat} (h : w.heap[g]? = some (.cells C T (lo, hi))) (i : Nat) :
    w.frozen? ⟨g, i, none⟩ = (decide (lo ≤ i) && decide (i < hi)) := by simp [World.frozen?, h]

theorem run_load_cell (P : Program) {w : World} {a : Addr} {v : Value} (h : w.cell? a = some v) :
    Sem.run P (load a) w = .ok v w := by simp [load, Sem.run, h]

theorem setCell_wh {w : World} {g : Nat} {C : Array Value} {T : TypeId} {fr : Nat × Nat} (h : w.heap[g]? = some (.cells C T fr)) (i : Nat) (v : Value) :
    w.setCell ⟨g, i, none⟩ v = wh w (w.heap.setIfInBounds g (.cells (C.setIfInBounds i v) T fr)) := by
  have hg : g < w.heap.size := (Array.getElem?_eq_some_iff.1 h).1
  have hv : w.heap[g] = .cells C T fr := (Array.getElem?_eq_some_iff.1 h).2
  unfold World.setCell wh
  congr 1
  apply Array.ext
  · simp
  · intro j h1 h2
    by_cases hj : g = j
    · subst hj
      simp [Array.getElem_modify, hv, hg]
    · rw [Array.getElem_modify_of_ne hj, Array.getElem_setIfInBounds]
      · simp [hj]
      · simpa using h2

theorem run_store_cell (P : Program) {w : World} {g i : Nat} {C : Array Value} {T : TypeId} {lo hi : Nat} {v : Value}
    (h : w.heap[g]? = some (.cells C T (lo, hi))) (hi' : i < C.size) (hf : ¬ (lo ≤ i ∧ i < hi)) (hv : oneCell v = true) :
    Sem.run P (store ⟨g, i, none⟩ v) w = .ok () (wh w (w.heap.setIfInBounds g (.cells (C.setIfInBounds i v) T (lo, hi)))) := by
  have hc : w.cell? ⟨g, i, none⟩ = some C[i] := by rw [cell_at h]; simp [hi']
  have hz : w.frozen? ⟨g, i, none⟩ = false := by rw [frozen_at h]; simp; omega
  have hs := setCell_wh h i v
  cases v <;> simp_all [store, Sem.run, oneCell]

/-- What a run of stores leaves of a row. -/
def overL (C : Array Value) (o : Nat) : List Value → Array Value
  | [] => C
  | v :: r => overL (C.setIfInBounds o v) (o + 1) r

theorem overL_size (o : Nat) (vs : List Value) : ∀ C : Array Value, (overL C o vs).size = C.size := by
  induction vs generalizing o with
  | nil => intro C; rfl
  | cons v r ih => intro C; simp [overL, ih]

theorem overL_get (vs : List Value) : ∀ (o : Nat) (C : Array Value) (j : Nat), o + vs.length ≤ C.size →
    (overL C o vs)[j]? = if o ≤ j ∧ j < o + vs.length then vs[j - o]? else C[j]? := by
  induction vs with
  | nil => intro o C j h; simp [overL]; omega
  | cons v r ih =>
    intro o C j h
    simp only [List.length_cons] at h
    rw [overL, ih _ _ _ (by simp; omega)]
    by_cases h1 : o + 1 ≤ j ∧ j < o + 1 + r.length
    · rw [if_pos h1, if_pos (by simp only [List.length_cons]; omega)]
      have : j - o = (j - (o + 1)) + 1 := by omega
      rw [this]; simp
    · rw [if_neg h1]
      by_cases h2 : o = j
      · subst h2
        rw [if_pos (by simp only [List.length_cons]; omega)]
        have hb : o < C.size := by omega
        simp [hb]
      · rw [if_neg (by simp only [List.length_cons]; omega)]
        simp [Array.getElem?_setIfInBounds_ne h2]

theorem run_storeCells (P : Program) {g : Nat} {T : TypeId} {lo hi : Nat} : ∀ (vs : List Value) (o i : Nat) (C : Array Value) (w : World),
    w.heap[g]? = some (.cells C T (lo, hi)) → o + i + vs.length ≤ C.size → (∀ j, o + i ≤ j → j < o + i + vs.length → ¬ (lo ≤ j ∧ j < hi)) →
    vs.all oneCell = true →
    Sem.run P (storeCells ⟨g, o, none⟩ vs i) w = .ok () (wh w (w.heap.setIfInBounds g (.cells (overL C (o + i) vs) T (lo, hi)))) := by
  intro vs
  induction vs with
  | nil =>
    intro o i C w h _ _ _
    have hg : g < w.heap.size := (Array.getElem?_eq_some_iff.1 h).1
    have hv : w.heap[g] = .cells C T (lo, hi) := (Array.getElem?_eq_some_iff.1 h).2
    have : w.heap.setIfInBounds g (.cells C T (lo, hi)) = w.heap := by
      apply Array.ext
      · simp
      · intro j h1 h2
        by_cases hj : g = j
        · subst hj; simp [hv]
        · rw [Array.getElem_setIfInBounds (by simpa using h1)]; simp [hj]
    show Sem.run P (pure ()) w = _
    rw [overL, this, wh_self]
    rfl
  | cons v r ih =>
    intro o i C w h hs hf ha
    simp only [List.all_cons, Bool.and_eq_true, List.length_cons] at ha hs hf
    have hg : g < w.heap.size := (Array.getElem?_eq_some_iff.1 h).1
    show Sem.run P (store ((⟨g, o, none⟩ : Addr).add i) v >>= fun _ => storeCells ⟨g, o, none⟩ r (i + 1)) w = _
    rw [Addr_add, Sem.run_bind, run_store_cell P h (by omega) (hf _ (by omega) (by omega)) ha.1]
    simp only [Result.andThen_ok]
    have h' : (wh w (w.heap.setIfInBounds g (.cells (C.setIfInBounds (o + i) v) T (lo, hi)))).heap[g]? = some (.cells (C.setIfInBounds (o + i) v) T (lo, hi)) := by
      simp [wh, hg]
    rw [ih o (i + 1) _ _ h' (by simp; omega) (fun j h1 h2 => hf j (by omega) (by omega)) ha.2]
    simp [wh, overL, Nat.add_assoc]

theorem run_loadCellsFrom (P : Program) {w : World} {g o : Nat} : ∀ (n i : Nat) (acc : Array Value) (vs : List Value), vs.length = n →
    (∀ j v, vs[j]? = some v → w.cell? ⟨g, o + i + j, none⟩ = some v) →
    Sem.run P (loadCellsFrom ⟨g, o, none⟩ i n acc) w = .ok (acc ++ vs.toArray) w := by
  intro n
  induction n with
  | zero =>
    intro i acc vs hl h
    have : vs = [] := List.eq_nil_of_length_eq_zero hl
    subst this
    simp [loadCellsFrom]
  | succ n ih =>
    intro i acc vs hl h
    match vs, hl with
    | v :: r, hl =>
      unfold loadCellsFrom
      rw [Addr_add, Sem.run_bind, run_load_cell P (v := v) (by simpa using h 0 v (by simp))]
      simp only [Result.andThen_ok]
      rw [ih (i + 1) _ r (by simpa using hl) (fun j u hj => by have := h (j + 1) u (by simpa using hj); rw [← this]; congr 2; omega)]
      simp

theorem run_loadCells (P : Program) {w : World} {g o : Nat} (vs : List Value)
    (h : ∀ j v, vs[j]? = some v → w.cell? ⟨g, o + j, none⟩ = some v) :
    Sem.run P (loadCells ⟨g, o, none⟩ vs.length) w = .ok vs.toArray w := by
  unfold loadCells
  rw [run_loadCellsFrom P vs.length 0 #[] vs rfl (by simpa using h)]
  simp

theorem run_underlying (P : Program) {t : TypeId} {d : TypeDesc} (h : P.underlying t = some d) (w : World) :
    Sem.run P (underlying t) w = .ok d w := by simp [underlying, program, h, Sem.run]

theorem run_typeInfo (P : Program) {t : TypeId} {i : TypeInfo} (h : P.info? t = some i) (w : World) :
    Sem.run P (typeInfo t) w = .ok i w := by simp [typeInfo, program, h, Sem.run]

theorem run_sizeOf (P : Program) {t : TypeId} {n : Nat} (h : szT P t = some n) (w : World) : Sem.run P (sizeOf t) w = .ok n w := by
  unfold szT at h
  split at h
  · rename_i i hi
    simp [sizeOf, run_typeInfo P hi]
    simpa using h
  · cases h

theorem run_isAgg (P : Program) {t : TypeId} {b : Bool} (h : isAggT P t = some b) (w : World) : Sem.run P (isAgg t) w = .ok b w := by
  unfold isAggT at h
  split at h
  · rename_i d hd; simp at h; subst h; simp [isAgg, run_underlying P hd]
  · rename_i d hd; simp at h; subst h; simp [isAgg, run_underlying P hd]
  · rename_i d hs ha hu
    simp at h; subst h
    simp only [isAgg, Sem.run_bind, run_underlying P hu, Result.andThen_ok]
    cases d <;> first | rfl | exact absurd rfl (hs _) | exact absurd rfl (ha _ _)
  · cases h

end Go.Abs
