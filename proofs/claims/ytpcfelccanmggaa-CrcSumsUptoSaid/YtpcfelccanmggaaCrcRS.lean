/- The walk over the document's Sum of chapter 4. -/
import Derived.Test.YtpcfelccanmggaaCrcR
namespace Go.Proofs.Ytpcfelccanmggaa
open Go.RowKit
set_option linter.unusedVariables false

theorem odd_u32' (c : Nat) (hc : c < 4294967296) (h : c % 2 = 1) : (bits .and .u32 (c : Int) 1 == 1) = true := by rw [low_u32 c hc, h]; rfl
theorem even_u32' (c : Nat) (hc : c < 4294967296) (h : c % 2 = 0) : (bits .and .u32 (c : Int) 1 == 1) = false := by rw [low_u32 c hc, h]; rfl

set_option maxHeartbeats 2000000 in
set_option maxRecDepth 100000 in
theorem rsum_n (ao : Option Addr) (n cap : Nat) (b : List Nat) (w : World) (hl : b.length = n) (hn : n ≤ 9223372036854775807) (hb : ∀ x ∈ b, x < 256) (hc : CellsAt w w.heap.size ao n (u8c b)) :
    Calls Try.prog 12 #[.slice ao n cap] w fun e w' => e = .returned (.int .u32 (csum b : Nat)) ∧ w = w' := by
  have Hb := Lib.hid hb; clear hb
  have Hl := Lib.hid hl; clear hl
  go_enter Try.func12, Try.ntmps12
  go_wp2
  go_loop [3, 4] (fun c i => ∃ k : Nat, k ≤ n ∧ i = .int .i64 k ∧ c = .int .u32 (creg (b.take k) : Nat)) (fun _ i => n - (intOf i).toNat)
  case atStart => exact ⟨0, Nat.zero_le _, rfl, rfl⟩
  case round =>
    obtain ⟨k, hk, rfl, rfl⟩ := hrel
    by_cases hkn : k < n
    · obtain ⟨b2, o2, rfl, hb2, hc2⟩ := hc k hkn
      obtain ⟨x, hx⟩ : ∃ x, x = b.getD k 0 := ⟨_, rfl⟩
      have hx256 : x < 256 := by
        rw [hx, List.getD_eq_getElem?_getD, List.getElem?_eq_getElem (by rw [Hl.out]; exact hkn)]
        exact Hb.out _ (List.getElem_mem _)
      rw [u8c, ← hx] at hc2
      obtain ⟨r, hr⟩ : ∃ r, r = creg (b.take k) := ⟨_, rfl⟩
      have hr2 : r < 4294967296 := by
        rw [hr]; exact creg_lt _ (fun y hy => Hb.out y (List.mem_of_mem_take hy))
      have hnext : Hid (creg (b.take (k + 1)) = cadd r x) := Lib.hid (by
        rw [take_snoc' b k (by rw [Hl.out]; exact hkn), creg_snoc, hr, hx])
      have h0 : r ^^^ x < 4294967296 := by have := @Nat.xor_lt_two_pow r x 32 (by omega) (by omega); simpa using this
      have hxor := bits_xor_u32 r x hr2 (by omega)
      obtain ⟨c0, hc0⟩ : ∃ c0, c0 = r ^^^ x := ⟨_, rfl⟩
      rw [← hc0] at hxor h0
      rw [← hr]
      have Hc0 := Lib.hid hc0
      clear hr hx hc hc0
      go_wp2
      go_loop [3, 5] (fun c j => ∃ m d : Nat, m ≤ 8 ∧ j = .int .i64 m ∧ c = .int .u32 d ∧ d < 4294967296 ∧ Hid (csteps (8 - m) d = cadd r x)) (fun _ j => 8 - (intOf j).toNat)
      case atStart => exact ⟨0, c0, by omega, rfl, rfl, h0, Lib.hid (by rw [Hc0.out]; rfl)⟩
      case round =>
        obtain ⟨m, d, hm, rfl, rfl, hd, hs⟩ := hrel
        clear hxor h0
        by_cases hm8 : m < 8
        · have hlt := cstep_lt d hd
          have hs2 : Hid (csteps (8 - (m + 1)) (cstep d) = cadd r x) := Lib.hid (by
            rw [← hs.out, show 8 - m = (8 - (m + 1)) + 1 by omega]; rfl)
          rcases Nat.mod_two_eq_zero_or_one d with hp | hp
          · have h1 := even_u32' d hd hp
            have h2 := step_even d hp
            clear hp
            go_wp2
            go_round
            case rel => exact ⟨m + 1, cstep d, by omega, by go_num, rfl, hlt, hs2⟩
            case measure => simp [intOf]; omega
          · have h1 := odd_u32' d hd hp
            have h2 := step_odd d hd hp
            clear hp
            go_wp2
            go_round
            case rel => exact ⟨m + 1, cstep d, by omega, by go_num, rfl, hlt, hs2⟩
            case measure => simp [intOf]; omega
        · obtain rfl : m = 8 := by omega
          go_wp2
          go_round
          case rel =>
            refine ⟨k + 1, by omega, by go_num, ?_⟩
            rw [hnext.out, ← hs.out]; rfl
          case measure => simp [intOf]; omega
    · obtain rfl : k = n := by omega
      have hall : b.take k = b := List.take_of_length_le (by rw [Hl.out]; exact Nat.le_refl _)
      have hx := bits_xor_u32 (creg b) 4294967295 (creg_lt _ Hb.out) (by decide)
      rw [hall]
      have Hx := Lib.hid hx; clear hx
      go_wp2
      go_ret
      refine ⟨?_, rfl⟩
      show Ending.returned (.int .u32 (bits .xor .u32 IntKind.u32.max (creg b : Nat))) = _
      have hy := bits_xor_u32 4294967295 (creg b) (by decide) (creg_lt _ Hb.out)
      rw [show IntKind.u32.max = ((4294967295 : Nat) : Int) from rfl, hy, Nat.xor_comm]; rfl
end Go.Proofs.Ytpcfelccanmggaa
