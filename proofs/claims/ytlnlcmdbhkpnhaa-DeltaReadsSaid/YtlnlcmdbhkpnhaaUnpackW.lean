/- The walks over bits.bit, bits.Width, bits.Unpack. -/
import Derived.Test.YtlnlcmdbhkpnhaaPackK
import Derived.Test.YtlnlcmdbhkpnhaaUnpackP
import Derived.ScopeJumps
namespace Go.Proofs.Ytlnlcmdbhkpnhaa
open Go.RowKit
set_option linter.unusedVariables false

set_option maxHeartbeats 400000 in
theorem halved8_n (a b : Nat) (w : World) (hb2 : b < 8) :
    Calls Try.prog 81 #[.int .u8 a, .int .i64 b] w fun e w' => e = .returned (.int .u8 ((a >>> b : Nat) : Int)) ∧ w = w' := by
  have e : ((a >>> b : Nat) : Int) = (a : Int) / 2 ^ b := by simp [Nat.shiftRight_eq_div_pow]
  rw [e]
  go_enter Try.func81, Try.ntmps81
  go_wp2
  go_ret
  exact ⟨rfl, rfl⟩

theorem bit_and (v m : Nat) (hv : v < 256) : bits .and .u8 ((v >>> m : Nat) : Int) 1 = ((v.testBit m).toNat : Nat) := by
  have h : v >>> m < 256 := Nat.lt_of_le_of_lt (Nat.shiftRight_le v m) hv
  exact (bits_and_u8 (v >>> m) 1 h (by decide)).trans (by rw [and_one_testBit])
set_option maxHeartbeats 400000 in
theorem bit_n (ao : Option Addr) (n cap p : Nat) (b : List Nat) (w : World) (hb : ∀ x ∈ b, x < 256) (hl : b.length = n) (hp : p < 8 * n) (hp2 : p ≤ 100000000) (hc : CellsAt w w.heap.size ao n (u8c b)) :
    Calls Try.prog 77 #[.slice ao n cap, .int .i64 p] w fun e w' => e = .returned (.int .u8 ((bitOf b p).toNat : Nat)) ∧ w = w' := by
  obtain ⟨bl, off, rfl, -, hcell⟩ := hc (p / 8) (by omega)
  obtain ⟨v, hv⟩ : ∃ v, v = b.getD (p / 8) 0 := ⟨_, rfl⟩
  have hv256 : v < 256 := by
    rw [hv, List.getD_eq_getElem?_getD, List.getElem?_eq_getElem (by omega)]
    exact hb _ (List.getElem_mem _)
  rw [u8c, ← hv] at hcell
  have hres : (bitOf b p) = v.testBit (p % 8) := by rw [hv]; rfl
  rw [hres]
  have hand := bit_and v (p % 8) hv256
  have Hl := Lib.hid hl; clear hl hv hc hres
  have e1 : ((p : Int) % 8) = ((p % 8 : Nat) : Int) := by omega
  have h3 : p / 8 < n := by omega
  have Ha := Lib.hid hand; clear hand
  have E1 := Lib.hid e1; clear e1
  go_enter Try.func77, Try.ntmps77
  go_wp2_with (go_at_call 81; rw [E1.out]; refine (halved8_n v (p % 8) _ (by omega)).mono ?_; rintro e w' ⟨rfl, rfl⟩)
  go_ret
  refine ⟨?_, rfl⟩
  show Ending.returned (.int .u8 _) = _
  rw [← Ha.out]; rfl

end Go.Proofs.Ytlnlcmdbhkpnhaa
