/- Chapter 10: the law's known; Decode of numbers that are none; LevelMany. -/
import Derived.Test.YtopmcffjpbnlnaaLevD
import Derived.Test.YtopmcffjpbnlnaaWithin
namespace Go.Proofs.Ytopmcffjpbnlnaa
open Go.RowKit
set_option linter.unusedVariables false

theorem known_bytes : levAny (List.replicate 10 1) 1 = [20, 1] := by decide
set_option maxHeartbeats 1000000 in
theorem known_any (w : World) :
    Calls Try.prog 10 #[] w fun e w' => e = .returned (.bool true) ∧ Below w.heap.size w w' := by
  go_enter Try.func10, Try.ntmps10
  go_wp2_with fail
  refine (levE_any _ 10 _ 1 (List.replicate 10 1) _ (by simp) (by decide) (by decide) (cells_alloc w _ _ 10 (nic (List.replicate 10 1)) (fun i hi => by match i, hi with | 0, _ => rfl | 1, _ => rfl | 2, _ => rfl | 3, _ => rfl | 4, _ => rfl | 5, _ => rfl | 6, _ => rfl | 7, _ => rfl | 8, _ => rfl | 9, _ => rfl)) (by intro x hx; rw [List.eq_of_mem_replicate hx]; decide)).mono ?_
  rw [known_bytes]
  intro e w1 hg
  obtain ⟨ao, n, cap, rfl, Hn, hc, hz, hr, hb⟩ := hg.opened
  obtain rfl : 2 = n := Hn.out
  obtain ⟨b, off, rfl, -, c0⟩ := hc 0 (by decide)
  obtain ⟨_, _, e0, -, c1⟩ := hc 1 (by decide)
  cases e0
  have c0' : w1.cell? ⟨b, off, none⟩ = some (.int .u8 20) := c0
  have c1' : w1.cell? ⟨b, off + 1, none⟩ = some (.int .u8 1) := c1
  have hx := bmore (balloc (Below.refl w.heap.size w) _) hb
  clear hg hc c0 c1 hr hb
  go_wp2
  go_ret
  exact ⟨rfl, hx⟩
/-- What level.Decode gave. -/
def GaveLev (w : World) (r : List Nat × Nat) (e : Ending) (w' : World) : Prop := ∃ v, e = .returned (.tuple #[v, .int .i64 (r.2 : Nat)]) ∧ w'.ownsRow w.heap.size 3 1 v r.1.length (natv r.1) ∧ Below w.heap.size w w'

set_option maxHeartbeats 1000000 in
theorem ldec_arg (ao : Option Addr) (L cap : Nat) (n width : Int) (w : World) (h : n < 0 ∨ 4000 < n ∨ width < 0 ∨ 16 < width) :
    Calls Try.prog 15 #[.slice ao L cap, .int .i64 n, .int .i64 width] w (GaveLev w ([], 1)) := by
  have key : GaveLev w ([], 1) (.returned (.tuple #[.slice none 0 0, .int .i64 1])) w := ⟨_, rfl, World.ownsRow_nil _ _ _ _, Below.refl _ _⟩
  have Key := Lib.hid key; clear key
  by_cases h1 : n < 0
  · go_enter Try.func15, Try.ntmps15
    go_wp2
    go_ret2
    exact Key.out
  by_cases h2 : 4000 < n
  · have d1 : decide (n < 0) = false := decide_eq_false h1
    have d2 : decide (4000 < n) = true := decide_eq_true h2
    clear h
    go_enter Try.func15, Try.ntmps15
    go_wp2
    go_ret2
    exact Key.out
  by_cases h3 : width < 0
  · have d1 : decide (n < 0) = false := decide_eq_false h1
    have d2 : decide (4000 < n) = false := decide_eq_false h2
    have d3 : decide (width < 0) = true := decide_eq_true h3
    clear h
    go_enter Try.func15, Try.ntmps15
    go_wp2
    go_ret2
    exact Key.out
  · have h4 : 16 < width := by omega
    have d1 : decide (n < 0) = false := decide_eq_false h1
    have d2 : decide (4000 < n) = false := decide_eq_false h2
    have d3 : decide (width < 0) = false := decide_eq_false h3
    clear h
    go_enter Try.func15, Try.ntmps15
    go_wp2
    go_ret2
    exact Key.out
theorem modN' (a : Int) (b : Nat) (hb : 0 < b) : ∃ k : Nat, a % (b : Int) = k ∧ k < b :=
  ⟨(a % (b : Int)).toNat, by have := Int.emod_nonneg a (show (b : Int) ≠ 0 by omega); omega, by have := Int.emod_lt_of_pos a (show (0 : Int) < b by omega); have := Int.emod_nonneg a (show (b : Int) ≠ 0 by omega); omega⟩
end Go.Proofs.Ytopmcffjpbnlnaa
