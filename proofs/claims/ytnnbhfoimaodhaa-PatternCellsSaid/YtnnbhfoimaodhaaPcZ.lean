/-
  'orchestrionlaw05.awake' is true: a closed run.
-/
import Derived.Test.YtnnbhfoimaodhaaPcC
import Derived.Test.YtnnbhfoimaodhaaAbsZc
namespace Go.Proofs.Ytnnbhfoimaodhaa
open Go.Abs
set_option linter.unusedVariables false

def plans : Nat → Nat → Option (List Nat × Plan)
  | 3, 3 => some (ch3x3, pp3x3)
  | 4, 3 => some (ch4x3, pp4x3)
  | 4, 10 => some (ch4x10, pp4x10)
  | 4, 12 => some (ch4x12, pp4x12)
  | 5, 7 => some (ch5x7, pp5x7)
  | 5, 9 => some (ch5x9, pp5x9)
  | 8, 5 => some (ch8x5, pp8x5)
  | 8, 22 => some (ch8x22, pp8x22)
  | 8, 26 => some (ch8x26, pp8x26)
  | 9, 7 => some (ch9x7, pp9x7)
  | 9, 14 => some (ch9x14, pp9x14)
  | 9, 16 => some (ch9x16, pp9x16)
  | 9, 18 => some (ch9x18, pp9x18)
  | 13, 1 => some (ch13x1, pp13x1)
  | 24, 10 => some (ch24x10, pp24x10)
  | 27, 3 => some (ch27x3, pp27x3)
  | 29, 1 => some (ch29x1, pp29x1)
  | 30, 3 => some (ch30x3, pp30x3)
  | 34, 14 => some (ch34x14, pp34x14)
  | 36, 0 => some (ch36x0, pp36x0)
  | 55, 1 => some (ch55x1, pp55x1)
  | 56, 1 => some (ch56x1, pp56x1)
  | 58, 1 => some (ch58x1, pp58x1)
  | 59, 1 => some (ch59x1, pp59x1)
  | _, _ => none

def exts (f : FuncId) (args : List AV) (s : ES) : Ext1 := if f = 14 then extJoin s args else .no

theorem exts_ok : ExtOk Try.prog exts := by
  intro f args s x s' h
  unfold exts at h
  split at h
  · rename_i hf
    subst hf
    exact extJoin_ok (fun h1 h2 h3 h4 h5 => wc14 h1 h2 h3 h4 h5) h
  · cases h

theorem wc10 (S : St) : WC Try.prog 10 [] (Is (.c (.bool true)) S) S :=
  wc_run (pl := plans) (by kernel_rfl) exts_ok (fuel := 1000) (d := 20) rfl rfl (by kernel_rfl) S

end Go.Proofs.Ytnnbhfoimaodhaa
