/- The walks over the document's Width, and max of two ints. -/
import Derived.Test.YtlnlcmdbhkpnhaaWidthW
namespace Go.Proofs.Ytlnlcmdbhkpnhaa
open Go.RowKit
set_option linter.unusedVariables false

theorem run_max_int2 {P : Program} {w : World} (ts : Array TypeId) (t : TypeId) (k : IntKind) (x y : Int) (m : Int) (hm : m = max x y) : (Builtin.max_ ts t #[.int k x, .int k y]).run P w = .ok (.int k m) w := by
  have e : m = (if x < y then y else x) := by rw [hm]; split <;> omega
  rw [e]
  simp [Builtin.max_, Builtin.max2]
set_option maxHeartbeats 1000000 in
theorem rwidth_n (v : Nat) (w : World) (hv : v < 18446744073709551616) :
    Calls Try.prog 39 #[.int .u64 v] w fun e w' => e = .returned (.int .i64 (bitLen v : Nat)) ∧ w = w' := by
  have hB : ∀ m : Nat, m ≤ v → bitLen m ≤ 64 := fun m hm => bitLen_le64 m (by omega)
  have HB := Lib.hid hB
  clear hB
  go_enter Try.func39, Try.ntmps39
  go_wp2
  go_loop [0, 3] (fun u c => ∃ m k : Nat, u = .int .u64 (m : Nat) ∧ c = .int .i64 (k : Nat) ∧ k ≤ 64 ∧ Hid (bitLen v = k + bitLen m) ∧ Hid (m ≤ v)) (fun u _ => (intOf u).toNat)
  case atStart => exact ⟨v, 0, rfl, rfl, by decide, Lib.hid (by omega), Lib.hid (Nat.le_refl _)⟩
  case round =>
    obtain ⟨m, k, rfl, rfl, hk, hs, hm⟩ := hrel
    by_cases h0 : 0 < m
    · obtain ⟨m2, hm2⟩ : ∃ m2, m2 = m / 2 := ⟨_, rfl⟩
      have em : (m : Int) / 2 = (m2 : Int) := by omega
      have e0 : (0 : Int) < (m : Int) := by omega
      have hs2 : Hid (bitLen v = k + 1 + bitLen m2) := Lib.hid (by rw [hs.out, bitLen_half m h0, hm2]; omega)
      have hmm : Hid (m2 ≤ v) := Lib.hid (by have := hm.out; omega)
      have hk1 : k + 1 ≤ 64 := by
        have h1 := HB.out v (Nat.le_refl _)
        have h2 := hs2.out
        omega
      have hlt : m2 < m := by omega
      clear hm2 h0
      go_wp2
      go_round
      case rel => exact ⟨m2, k + 1, rfl, by go_num, hk1, hs2, hmm⟩
      case measure => simp [intOf]; omega
    · obtain rfl : m = 0 := by omega
      go_wp2
      go_ret
      refine ⟨?_, rfl⟩
      have h := hs.out
      rw [bitLen_zero] at h
      rw [h]; rfl
end Go.Proofs.Ytlnlcmdbhkpnhaa
