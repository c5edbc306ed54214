/-
  'orchestrionlaw05.PatternCells', whatever the cell and the text: it answers true, and what was handed in reads as it did. No condition.
-/
import Derived.Test.YtnnbhfoimaodhaaPcK
import Derived.Test.YtnnbhfoimaodhaaAbsZd
namespace Go.Proofs.Ytnnbhfoimaodhaa
open Go.Abs Go.ChangeShapes Go.WideShapes Go.ChangeAt Go.RowKit
set_option linter.unusedVariables false

theorem ownGo : ownKnob Try.prog.godebug = none := by kernel_rfl
theorem laidGo : laidOutB Try.prog = true := by kernel_rfl

def intAt : Option Value → Int
  | some (.int _ m) => m
  | _ => 0

/-- A struct of whole numbers, by value. -/
theorem open_ints {H : Type} {enc : TypeId × Value → H} {P : Program} {w : World} {base b0 : Nat} {spare : Nat → Bool} {held : Bool} {r : Reach} {t : TypeId} {fs : Array Field} {v : Value} {d : DataW H} {ps : List MemPlace}
    (ht : P.underlying t = some (.struct fs)) (hf : ∀ (i : Nat) (f : Field), fs[i]? = some f → P.underlying f.type = some (.int .i64) ∧ f.offset = i ∧ P.cellsOf f.type = 1) (hC : P.cellsOf t = fs.size)
    (hval : Value.okWide P w r b0 t v) (hd : DataW.Trod enc P w base spare held t v d ps) : ∃ ns : List Int, v = .agg (ns.map (.int .i64 ·)).toArray ∧ ns.length = fs.size := by
  obtain ⟨cs, rfl, hsz⟩ := okWide_struct ht hval
  obtain ⟨fuel, hfu⟩ := hd
  obtain ⟨xs, n, _, _, hlen, hxl, hg⟩ := DataW.trod_struct ht hfu
  have hcl : cs.toList.length = fs.size := by
    have : (Value.agg cs).cells.toList.length = P.cellsOf t := hlen
    rw [← hC, ← hsz]; simp
  have hall : ∀ i, i < fs.size → ∃ m, cs.toList[i]? = some (.int .i64 m) := by
    intro i hi
    have hfi : fs[i]? = some fs[i] := by simp [hi]
    obtain ⟨h1, h2, h3⟩ := hf i _ hfi
    have h4 := hg i _ hfi
    rw [h2, h3] at h4
    have hx : ∃ x, xs[i]? = some x := ⟨xs[i]'(by omega), by simp [hxl, hi]⟩
    obtain ⟨x, hx⟩ := hx
    rw [hx] at h4
    obtain ⟨m, h5, _⟩ := DataW.trod_int h1 h4
    refine ⟨m, ?_⟩
    have h6 : (cs.toList.drop i).take 1 = [.int .i64 m] := h5
    have h7 : cs.toList[i]? = ((cs.toList.drop i).take 1)[0]? := by simp
    rw [h7, h6]; rfl
  refine ⟨(List.range fs.size).map fun i => intAt cs.toList[i]?, ?_, by simp⟩
  congr 1
  apply Array.ext'
  refine List.ext_getElem? fun i => ?_
  rcases Nat.lt_or_ge i fs.size with hi | hi
  · obtain ⟨m, hm⟩ := hall i hi
    rw [hm]
    simp only [List.getElem?_map, List.getElem?_range hi, Option.map_some]
    rw [hm]; rfl
  · rw [List.getElem?_eq_none (by omega), List.getElem?_eq_none (by simp; omega)]

theorem ints_rel (F : Nat → Nat → Option Value) (ns : List Int) : RelF F (.agg (ns.map (.int .i64 ·))) (.agg (ns.map (Value.int .i64 ·)).toArray) := by
  refine .agg _ _ (by simp) fun i a b ha hb => ?_
  rw [List.getElem?_map, Option.map_eq_some_iff] at ha hb
  obtain ⟨x, hx, rfl⟩ := ha
  obtain ⟨y, hy, rfl⟩ := hb
  rw [hx] at hy
  cases hy
  exact .int _ _

theorem open_cell {H : Type} {enc : TypeId × Value → H} {w : World} {base b0 : Nat} {spare : Nat → Bool} {held : Bool} {r : Reach} {v : Value} {d : DataW H} {ps : List MemPlace}
    (hval : Value.okWide Try.prog w r b0 23 v) (hd : DataW.Trod enc Try.prog w base spare held 23 v d ps) : ∃ a b c d e f : Int, v = .agg ([a, b, c, d, e, f].map (Value.int .i64 ·)).toArray := by
  obtain ⟨ns, h1, h2⟩ := open_ints Try.underlying23 (by
    intro i f hf
    match i, hf with
    | 0, hf | 1, hf | 2, hf | 3, hf | 4, hf | 5, hf => cases hf; exact ⟨Try.underlying3, rfl, by kernel_rfl⟩
    | i + 6, hf => simp at hf) (by kernel_rfl) hval hd
  match ns, h2 with
  | [a, b, c, d, e, f], _ => exact ⟨a, b, c, d, e, f, h1⟩

theorem args_rel (W : World) (a b c d e f : Int) (s : ByteArray) : RelL (ghW W) [.c (cellFV a b c d e f), .c (.str s.data.toList)] [.agg ([a, b, c, d, e, f].map (Value.int .i64 ·)).toArray, .string s] :=
  ⟨rfl, fun i x y hx hy => by
    match i, hx, hy with
    | 0, hx, hy => cases hx; cases hy; exact .c (ints_rel _ [a, b, c, d, e, f])
    | 1, hx, hy => cases hx; cases hy; exact .c (.str s)
    | i + 2, hx, hy => simp at hx⟩

theorem reads_ok : ∀ t ∈ Try.f3.params.toList, Try.prog.readableRec t = true ∧ t < Try.prog.types.size := by
  rw [Try.params3]
  intro t ht
  simp at ht
  rcases ht with rfl | rfl <;> exact ⟨by kernel_rfl, of_decide_eq_true (by kernel_rfl)⟩

theorem cells_calls (W : World) (a b c d e f : Int) (s : ByteArray) :
    Calls Try.prog 3 #[.agg ([a, b, c, d, e, f].map (Value.int .i64 ·)).toArray, .string s] W fun e W' => e = .returned (.bool true) ∧ Below W.heap.size W W' := by
  exact calls_of_wc (fun vals w => Try.call3 vals w) (wc3 a b c d e f s.data.toList empty.toSt) (args_rel W a b c d e f s)

set_option maxRecDepth 100000 in
theorem cells_lifted (os : Os) (started : os.Started) (H : Type) (enc : TypeId × Value → H) :
    ReturnsInHanded {} Try.checked os 3 .any (Rows.patternCellsSpec.pre6 enc Try.prog Try.f3 Rows.patternCellsRow.domain false) (Rows.patternCellsSpec.post enc Try.prog Try.f3 false true false false) := by
  refine returnsInHanded_of_change (C := Try.checked) ownGo started (by kernel_rfl) Try.func3
    (ChangeSpec.witness6 (enc := enc) (C := Try.checked) false ⟨#[], #[.agg #[.int .i64 0, .int .i64 0, .int .i64 0, .int .i64 0, .int .i64 0, .int .i64 0], .string ⟨#[]⟩], []⟩ 8 (by kernel_rfl) (by kernel_rfl) (by kernel_rfl) (by kernel_rfl)) ?_
  intro W base args ds gs before hval0 hW hcnd _
  have hval : ∀ (j : Nat) t v, Try.f3.params[j]? = some t → args[j]? = some v → Value.okWide Try.prog W .any base t v := hval0
  have hW' := hW
  obtain ⟨p, q, hA0, hV, rfl, hfz, hnd⟩ := hW
  have hA : DataW.TrodAll enc Try.prog W 0 (fun _ => true) true Try.f3.params.toList args.toList ds p := hA0
  rw [Try.params3] at hA hval
  obtain ⟨v0, v1, d0, d1, p0, p1, rfl, rfl, rfl, h0, h1⟩ := trodAll_two hA
  obtain ⟨rfl, rfl⟩ := trodVars_none hV
  obtain ⟨a, b, c, d, e, f, rfl⟩ := open_cell (hval 0 23 v0 rfl rfl) h0
  obtain ⟨s, rfl, rfl, rfl, hs⟩ := Go.ChangeMaps.open_string Try.underlying9 (hval 1 9 v1 rfl rfl) h1
  clear hA0 hval0
  simp only [List.append_nil] at hW'
  refine (cells_calls W a b c d e f s).mono fun e W' ⟨he, hw⟩ => ?_
  subst he
  exact ⟨_, rfl, law_post laidGo rfl reads_ok (by kernel_rfl) Try.underlying4 hW' rfl rfl rfl hw⟩

theorem cells_hold : Rows.PatternCellsSaid :=
  OpenClaim.holds_of_wide 3 Try.f3 rfl rfl rfl rfl rfl rfl rfl ⟨rfl, rfl, rfl, rfl, rfl⟩ rfl rfl rfl rfl rfl (by kernel_rfl) Try.func3 (by kernel_rfl)
    (of_decide_eq_true (by kernel_rfl)) (by unfold Func.isWrapper; first | (rw [if_pos (by decide +kernel)]; kernel_rfl) | (rw [if_neg (by decide +kernel)]; exact ⟨rfl, rfl⟩))
    (fun os started H enc _ => cells_lifted os started H enc)

#print axioms cells_hold
end Go.Proofs.Ytnnbhfoimaodhaa
