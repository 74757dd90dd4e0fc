/- The walks over bits.bit, bits.Width, bits.Unpack. -/
import Derived.Test.YtkmgbcpleopdgaaBitsK
import Derived.Test.YtkmgbcpleopdgaaUnpackP
import Derived.Test.YtkmgbcpleopdgaaWidthP
import Derived.ScopeJumps
namespace Go.Proofs.Ytkmgbcpleopdgaa
open Go.RowKit
set_option linter.unusedVariables false

set_option maxHeartbeats 400000 in
theorem halved8_n (a b : Nat) (w : World) (hb2 : b < 8) :
    Calls Try.prog 23 #[.int .u8 a, .int .i64 b] w fun e w' => e = .returned (.int .u8 ((a >>> b : Nat) : Int)) ∧ w = w' := by
  have e : ((a >>> b : Nat) : Int) = (a : Int) / 2 ^ b := by simp [Nat.shiftRight_eq_div_pow]
  rw [e]
  go_enter Try.func23, Try.ntmps23
  go_wp2
  go_ret
  exact ⟨rfl, rfl⟩

theorem bit_and (v m : Nat) (hv : v < 256) : bits .and .u8 ((v >>> m : Nat) : Int) 1 = ((v.testBit m).toNat : Nat) := by
  have h : v >>> m < 256 := Nat.lt_of_le_of_lt (Nat.shiftRight_le v m) hv
  exact (bits_and_u8 (v >>> m) 1 h (by decide)).trans (by rw [and_one_testBit])
set_option maxHeartbeats 400000 in
theorem bit_n (ao : Option Addr) (n cap p : Nat) (b : List Nat) (w : World) (hb : ∀ x ∈ b, x < 256) (hl : b.length = n) (hp : p < 8 * n) (hp2 : p ≤ 100000000) (hc : CellsAt w w.heap.size ao n (u8c b)) :
    Calls Try.prog 22 #[.slice ao n cap, .int .i64 p] w fun e w' => e = .returned (.int .u8 ((bitOf b p).toNat : Nat)) ∧ w = w' := by
  obtain ⟨bl, off, rfl, -, hcell⟩ := hc (p / 8) (by omega)
  obtain ⟨v, hv⟩ : ∃ v, v = b.getD (p / 8) 0 := ⟨_, rfl⟩
  have hv256 : v < 256 := by
    rw [hv, List.getD_eq_getElem?_getD, List.getElem?_eq_getElem (by omega)]
    exact hb _ (List.getElem_mem _)
  rw [u8c, ← hv] at hcell
  have hres : (bitOf b p) = v.testBit (p % 8) := by rw [hv]; rfl
  rw [hres]
  have hand := bit_and v (p % 8) hv256
  have Hl := Lib.hid hl; clear hl hv hc hres
  have e1 : ((p : Int) % 8) = ((p % 8 : Nat) : Int) := by omega
  have h3 : p / 8 < n := by omega
  have Ha := Lib.hid hand; clear hand
  have E1 := Lib.hid e1; clear e1
  go_enter Try.func22, Try.ntmps22
  go_wp2_with (go_at_call 23; rw [E1.out]; refine (halved8_n v (p % 8) _ (by omega)).mono ?_; rintro e w' ⟨rfl, rfl⟩)
  go_ret
  refine ⟨?_, rfl⟩
  show Ending.returned (.int .u8 _) = _
  rw [← Ha.out]; rfl

set_option maxHeartbeats 1000000 in
theorem width_n (v : Nat) (w : World) (hv : v < 18446744073709551616) :
    Calls Try.prog 15 #[.int .u64 v] w fun e w' => e = .returned (.int .i64 (bitLen v : Nat)) ∧ w = w' := by
  have hB : ∀ m : Nat, Hid (m ≤ v) → bitLen m ≤ 64 := fun m hm => bitLen_le64 m (by have := hm.out; omega)
  go_enter Try.func15, Try.ntmps15
  go_wp2
  refine wp_scope_jumps 0 (fun a' w' => w' = w ∧ ∃ (m c : Nat) (u4 u5 u6 u7 u8 u9 u10 : Value), a' = { tmps := #[.int .u64 m, undef, .int .i64 0, .int .i64 c, u4, u5, u6, u7, u8, u9, u10], defers := [] } ∧ Hid (bitLen v = c + bitLen m) ∧ Hid (m ≤ v)) (fun a' _ => (intOf (a'.tmps.getD 0 undef)).toNat) rfl ?_ ?_
  · go_wp2
    go_step3
    by_cases h0 : 0 < v
    · go_wp2_with (go_at_call 20; refine (halved_n v 1 _ (by omega)).mono ?_; rintro e w' ⟨rfl, rfl⟩)
      go_step3
      refine ⟨rfl, rfl, v / 2, 1, _, _, _, _, _, _, _, rfl, Lib.hid (by rw [bitLen_half v h0]; omega), Lib.hid (Nat.div_le_self _ _)⟩
    · obtain rfl : v = 0 := by omega
      go_wp2
      simp only [Exit.jump]
      go_ret
      exact ⟨rfl, rfl⟩
  · rintro a' w' ⟨rfl, m, c, u4, u5, u6, u7, u8, u9, u10, rfl, hs, hm⟩
    have hb64 := hB v (Lib.hid (Nat.le_refl _))
    have hc64 : c ≤ 64 := by have := hs.out; omega
    by_cases h0 : 0 < m
    · go_wp2_with (go_at_call 20; refine (halved_n m 1 _ (by omega)).mono ?_; rintro e w' ⟨rfl, rfl⟩)
      go_step3
      refine ⟨rfl, ⟨rfl, m / 2, c + 1, _, _, _, _, _, _, _, rfl, Lib.hid (by rw [hs.out, bitLen_half m h0]; omega), Lib.hid (by have := hm.out; omega)⟩, ?_⟩
      have hd : m >>> 1 < m := by rw [Nat.shiftRight_eq_div_pow]; omega
      show (((m >>> 1 : Nat) : Int)).toNat < (((m : Nat) : Int)).toNat
      omega
    · obtain rfl : m = 0 := by omega
      go_wp2
      simp only [Exit.jump]
      go_ret
      refine ⟨?_, rfl⟩
      have := hs.out
      rw [bitLen_zero] at this
      rw [this]; rfl
end Go.Proofs.Ytkmgbcpleopdgaa
