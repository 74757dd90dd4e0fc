/- Chapter 10: the law's known; Decode of numbers that are none; LevelMany. -/
import Derived.Test.YtkolmoebopfgiaaLevD
import Derived.Test.YtkolmoebopfgiaaWithin
namespace Go.Proofs.Ytkolmoebopfgiaa
open Go.RowKit
set_option linter.unusedVariables false

/-- What level.Decode gave. -/
def GaveLev (w : World) (r : List Nat × Nat) (e : Ending) (w' : World) : Prop := ∃ v, e = .returned (.tuple #[v, .int .i64 (r.2 : Nat)]) ∧ w'.ownsRow w.heap.size 3 1 v r.1.length (natv r.1) ∧ Below w.heap.size w w'

set_option maxHeartbeats 1000000 in
theorem ldec_arg (ao : Option Addr) (L cap : Nat) (n width : Int) (w : World) (h : n < 0 ∨ 4000 < n ∨ width < 0 ∨ 16 < width) :
    Calls Try.prog 25 #[.slice ao L cap, .int .i64 n, .int .i64 width] w (GaveLev w ([], 1)) := by
  have key : GaveLev w ([], 1) (.returned (.tuple #[.slice none 0 0, .int .i64 1])) w := ⟨_, rfl, World.ownsRow_nil _ _ _ _, Below.refl _ _⟩
  have Key := Lib.hid key; clear key
  by_cases h1 : n < 0
  · go_enter Try.func25, Try.ntmps25
    go_wp2
    go_ret2
    exact Key.out
  by_cases h2 : 4000 < n
  · have d1 : decide (n < 0) = false := decide_eq_false h1
    have d2 : decide (4000 < n) = true := decide_eq_true h2
    clear h
    go_enter Try.func25, Try.ntmps25
    go_wp2
    go_ret2
    exact Key.out
  by_cases h3 : width < 0
  · have d1 : decide (n < 0) = false := decide_eq_false h1
    have d2 : decide (4000 < n) = false := decide_eq_false h2
    have d3 : decide (width < 0) = true := decide_eq_true h3
    clear h
    go_enter Try.func25, Try.ntmps25
    go_wp2
    go_ret2
    exact Key.out
  · have h4 : 16 < width := by omega
    have d1 : decide (n < 0) = false := decide_eq_false h1
    have d2 : decide (4000 < n) = false := decide_eq_false h2
    have d3 : decide (width < 0) = false := decide_eq_false h3
    clear h
    go_enter Try.func25, Try.ntmps25
    go_wp2
    go_ret2
    exact Key.out
end Go.Proofs.Ytkolmoebopfgiaa
