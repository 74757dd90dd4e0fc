/- A law package's own within. -/
import Derived.Test.YtlnlcmdbhkpnhaaMem
namespace Go.Proofs.Ytlnlcmdbhkpnhaa
open Go.RowKit
set_option linter.unusedVariables false

set_option maxHeartbeats 400000 in
theorem within_any (a b : Int) (w : World) (hb : 0 < b) (hb2 : b ≤ 100000) (ha : -9223372036854775808 ≤ a) (ha2 : a ≤ 9223372036854775807):
    Calls Try.prog 13 #[.int .i64 a, .int .i64 b] w fun e w' => e = .returned (.int .i64 (a % b)) ∧ w = w' := by
  by_cases h0 : 0 ≤ a
  · have h1 : a.tmod b = a % b := Int.tmod_eq_emod_of_nonneg h0
    have h2 : 0 ≤ a % b := Int.emod_nonneg _ (by omega)
    go_enter Try.func13, Try.ntmps13
    go_wp2
    go_ret
    exact ⟨rfl, rfl⟩
  · by_cases hd : a % b = 0
    · have h1 : a.tmod b = 0 := Int.tmod_eq_zero_of_dvd (Int.dvd_of_emod_eq_zero hd)
      have Hd := Lib.hid hd; clear hd
      go_enter Try.func13, Try.ntmps13
      go_wp2
      go_ret
      rw [Hd.out]; exact ⟨rfl, rfl⟩
    · have h1 : a.tmod b = a % b - b := by
        rw [Int.tmod_eq_emod]
        rw [if_neg (by rintro (h | h); exact h0 h; exact hd (Int.emod_eq_zero_of_dvd h))]
        omega
      have h2 : a % b < b := Int.emod_lt_of_pos _ hb
      have h3 : 0 ≤ a % b := Int.emod_nonneg _ (by omega)
      go_enter Try.func13, Try.ntmps13
      go_wp2
      go_ret
      exact ⟨rfl, rfl⟩
theorem modN' (a : Int) (b : Nat) (hb : 0 < b) : ∃ k : Nat, a % (b : Int) = k ∧ k < b :=
  ⟨(a % (b : Int)).toNat, by have := Int.emod_nonneg a (show (b : Int) ≠ 0 by omega); omega, by have := Int.emod_lt_of_pos a (show (0 : Int) < b by omega); have := Int.emod_nonneg a (show (b : Int) ≠ 0 by omega); omega⟩
end Go.Proofs.Ytlnlcmdbhkpnhaa
