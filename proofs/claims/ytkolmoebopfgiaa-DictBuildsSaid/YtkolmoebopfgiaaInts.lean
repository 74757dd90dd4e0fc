/- A law package's own ints, of two rows that are the same. -/
import Derived.Test.YtkolmoebopfgiaaLevW
import Derived.BigQuiet
namespace Go.Proofs.Ytkolmoebopfgiaa
open Go.RowKit
set_option linter.unusedVariables false

set_option maxHeartbeats 1000000 in
set_option maxRecDepth 100000 in
theorem lints_same (ao1 ao2 : Option Addr) (n cap1 cap2 : Nat) (f : Nat → Int) (w : World) (hn : n ≤ 100000) (h1 : CellsAt w w.heap.size ao1 n (fun i => .int .i64 (f i))) (h2 : CellsAt w w.heap.size ao2 n (fun i => .int .i64 (f i))) :
    Calls Try.prog 18 #[.slice ao1 n cap1, .slice ao2 n cap2] w fun e w' => e = .returned (.bool true) ∧ ∃ m, w' = w.drewN m := by
  have H1 := Lib.hid h1; have H2 := Lib.hid h2
  clear h1 h2
  go_enter Try.func18, Try.ntmps18
  go_wp2
  go_loopw [5] (fun i wr => ∃ k m : Nat, k ≤ n ∧ i = .int .i64 (k : Nat) ∧ wr = w.drewN m) (fun i _ => n - (intOf i).toNat)
  case atStart => exact ⟨0, 0, Nat.zero_le _, rfl, rfl⟩
  case round =>
    obtain ⟨k, m, hk, rfl, rfl⟩ := hrel
    by_cases hkn : k < n
    · obtain ⟨b1, o1, rfl, -, c1⟩ := H1.out k hkn
      obtain ⟨b2, o2, rfl, -, c2⟩ := H2.out k hkn
      obtain ⟨x, hx⟩ : ∃ x, x = f k := ⟨_, rfl⟩
      dsimp only at c1 c2
      rw [← hx] at c1 c2
      have e1 : (k : Int) < (n : Int) := by omega
      have e2 : (0 : Int) ≤ (k : Int) := by omega
      clear hx
      go_wp2
      go_quiet (fail)
      go_wp2
      go_roundw
      case rel => exact ⟨k + 1, m + nq, by omega, by go_num, rfl⟩
      case measure => simp [intOf]; omega
    · obtain rfl : k = n := by omega
      go_wp2
      go_ret
      exact ⟨rfl, m, rfl⟩
end Go.Proofs.Ytkolmoebopfgiaa
