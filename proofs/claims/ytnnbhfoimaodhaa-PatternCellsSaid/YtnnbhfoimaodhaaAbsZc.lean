/-
  The abstract machine, part Zc: strings.Join within a run.
-/
import Derived.Test.YtnnbhfoimaodhaaAbsZb
import Derived.Lib.Join
namespace Go.Abs
open Go.RowKit
set_option linter.unusedVariables false
set_option linter.unusedSimpArgs false

def strsOf : List AV → Option (List (List UInt8))
  | [] => some []
  | .c (.str x) :: r => (match strsOf r with | some l => some (x :: l) | none => none)
  | _ => none

theorem strsOf_spec : ∀ {l : List AV} {xs : List (List UInt8)}, strsOf l = some xs → l = xs.map fun x => .c (.str x)
  | [], xs, h => by cases h; rfl
  | v :: r, xs, h => by
    unfold strsOf at h
    split at h
    · cases ‹_ :: _ = []›
    · rename_i x r' heq
      cases heq
      split at h
      · rename_i l hl
        cases h
        rw [strsOf_spec hl]; rfl
      · cases h
    · cases h

def JoinOk (P : Program) (f : FuncId) : Prop := ∀ {b off : Nat} {full : Bool} {xs : List (List UInt8)} {sep : List UInt8} {cs : List AV} {ro : Nat} {T : TypeId} {S : St}, S.get b = some (.blk cs ro T) →
    (∀ (j : Nat) (x : List UInt8), xs[j]? = some x → cs[off + j]? = some (.c (.str x))) → (Lib.join xs sep).length ≤ 140737488355328 → xs.length ≤ 140737488355328 → 0 < xs.length →
    WC P f [.sl b off xs.length 1 full, .c (.str sep)] (Is (.c (.str (Lib.join xs sep))) S) S

def joinIn (off len : Nat) (sep : List UInt8) (s : ES) : Option Ob → Ext1
  | some (.blk cs _ _) =>
    match strsOf ((cs.drop off).take len) with
    | some xs => if xs.length = len ∧ 0 < len ∧ (Lib.join xs sep).length ≤ 140737488355328 ∧ len ≤ 140737488355328 then .yes (some (.ret (.c (.str (Lib.join xs sep))), s)) else .no
    | none => .no
  | _ => .no

def extJoin (s : ES) : List AV → Ext1
  | [.sl b off len 1 _, .c (.str sep)] => joinIn off len sep s (s.toSt.get b)
  | _ => .no

theorem extJoin_ok {P : Program} {f : FuncId} (h : JoinOk P f) {args : List AV} {s s' : ES} {x : CX} (he : extJoin s args = .yes (some (x, s'))) :
    WC P f args (fun y T => y = x ∧ T = s'.toSt) s.toSt ∧ Gr s s' := by
  unfold extJoin at he
  split at he
  · rename_i b off len full sep
    unfold joinIn at he
    split at he
    · rename_i cs ro T hb
      split at he
      · rename_i xs hxs
        split at he
        · rename_i hc
          obtain ⟨rfl, h1, h2, h3⟩ := hc
          cases he
          refine ⟨h hb (fun j y hj => ?_) h2 h3 h1, .refl _⟩
          have hj' : (xs.map fun x => AV.c (.str x))[j]? = some (.c (.str y)) := by rw [List.getElem?_map, hj]; rfl
          rw [← strsOf_spec hxs, List.getElem?_take] at hj'
          split at hj'
          · rwa [List.getElem?_drop] at hj'
          · cases hj'
        · cases he
      · cases he
    · cases he
  · cases he

end Go.Abs
