/- The walk over bits.Width. -/
import Derived.Test.YtlnlcmdbhkpnhaaUnpackW
import Derived.Test.YtlnlcmdbhkpnhaaWidthP
import Derived.ScopeJumps
namespace Go.Proofs.Ytlnlcmdbhkpnhaa
open Go.RowKit
set_option linter.unusedVariables false

set_option maxHeartbeats 1000000 in
theorem width_n (v : Nat) (w : World) (hv : v < 18446744073709551616) :
    Calls Try.prog 55 #[.int .u64 v] w fun e w' => e = .returned (.int .i64 (bitLen v : Nat)) ∧ w = w' := by
  have hB : ∀ m : Nat, Hid (m ≤ v) → bitLen m ≤ 64 := fun m hm => bitLen_le64 m (by have := hm.out; omega)
  go_enter Try.func55, Try.ntmps55
  go_wp2
  refine wp_scope_jumps 0 (fun a' w' => w' = w ∧ ∃ (m c : Nat) (u4 u5 u6 u7 u8 u9 u10 : Value), a' = { tmps := #[.int .u64 m, undef, .int .i64 0, .int .i64 c, u4, u5, u6, u7, u8, u9, u10], defers := [] } ∧ Hid (bitLen v = c + bitLen m) ∧ Hid (m ≤ v)) (fun a' _ => (intOf (a'.tmps.getD 0 undef)).toNat) rfl ?_ ?_
  · go_wp2
    go_step3
    by_cases h0 : 0 < v
    · go_wp2_with (go_at_call 74; refine (halved_n v 1 _ (by omega)).mono ?_; rintro e w' ⟨rfl, rfl⟩)
      go_step3
      refine ⟨rfl, rfl, v / 2, 1, _, _, _, _, _, _, _, rfl, Lib.hid (by rw [bitLen_half v h0]; omega), Lib.hid (Nat.div_le_self _ _)⟩
    · obtain rfl : v = 0 := by omega
      go_wp2
      simp only [Exit.jump]
      go_ret
      exact ⟨rfl, rfl⟩
  · rintro a' w' ⟨rfl, m, c, u4, u5, u6, u7, u8, u9, u10, rfl, hs, hm⟩
    have hb64 := hB v (Lib.hid (Nat.le_refl _))
    have hc64 : c ≤ 64 := by have := hs.out; omega
    by_cases h0 : 0 < m
    · go_wp2_with (go_at_call 74; refine (halved_n m 1 _ (by omega)).mono ?_; rintro e w' ⟨rfl, rfl⟩)
      go_step3
      refine ⟨rfl, ⟨rfl, m / 2, c + 1, _, _, _, _, _, _, _, rfl, Lib.hid (by rw [hs.out, bitLen_half m h0]; omega), Lib.hid (by have := hm.out; omega)⟩, ?_⟩
      have hd : m >>> 1 < m := by rw [Nat.shiftRight_eq_div_pow]; omega
      show (((m >>> 1 : Nat) : Int)).toNat < (((m : Nat) : Int)).toNat
      omega
    · obtain rfl : m = 0 := by omega
      go_wp2
      simp only [Exit.jump]
      go_ret
      refine ⟨?_, rfl⟩
      have := hs.out
      rw [bitLen_zero] at this
      rw [this]; rfl
end Go.Proofs.Ytlnlcmdbhkpnhaa
