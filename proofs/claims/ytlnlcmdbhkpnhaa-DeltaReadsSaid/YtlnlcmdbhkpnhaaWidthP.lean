/- How many bits a number has: plain mathematics. -/
namespace Go.Proofs.Ytlnlcmdbhkpnhaa
def bitLen (v : Nat) : Nat := if v = 0 then 0 else Nat.log2 v + 1
theorem bitLen_zero : bitLen 0 = 0 := rfl
theorem bitLen_half (v : Nat) (hv : 0 < v) : bitLen v = bitLen (v / 2) + 1 := by
  unfold bitLen
  rw [if_neg (by omega), Nat.log2_def]
  by_cases h : 2 ≤ v
  · rw [if_pos h, if_neg (by omega)]
  · obtain rfl : v = 1 := by omega
    rfl
theorem bitLen_lt (v : Nat) : v < 2 ^ bitLen v := by
  unfold bitLen
  split
  · rename_i h; subst h; decide
  · exact Nat.lt_log2_self
theorem bitLen_le_of_lt (v k : Nat) (h : v < 2 ^ k) : bitLen v ≤ k := by
  unfold bitLen
  split
  · exact Nat.zero_le _
  · rename_i hv
    rcases Nat.lt_or_ge (Nat.log2 v) k with h1 | h1
    · omega
    · have h2 := Nat.log2_self_le hv
      have h3 : 2 ^ k ≤ 2 ^ Nat.log2 v := Nat.pow_le_pow_right (by decide) h1
      omega
theorem bitLen_ge (v : Nat) (hv : 0 < v) : 2 ^ (bitLen v - 1) ≤ v := by
  unfold bitLen
  rw [if_neg (by omega)]
  simpa using Nat.log2_self_le (by omega)
theorem bitLen_le64 (v : Nat) (h : v < 18446744073709551616) : bitLen v ≤ 64 := bitLen_le_of_lt v 64 (by simpa using h)
theorem bitLen_pow (k : Nat) : bitLen (2 ^ k) = k + 1 := by
  have h1 := bitLen_le_of_lt (2 ^ k) (k + 1) (Nat.pow_lt_pow_right (by decide) (by omega))
  rcases Nat.lt_or_ge (bitLen (2 ^ k)) (k + 1) with h | h
  · have h2 := bitLen_lt (2 ^ k)
    have h3 : 2 ^ bitLen (2 ^ k) ≤ 2 ^ k := Nat.pow_le_pow_right (by decide) (by omega)
    omega
  · omega
theorem bitLen_pred (k : Nat) : bitLen (2 ^ k - 1) = k := by
  have hp := Nat.two_pow_pos k
  have h1 := bitLen_le_of_lt (2 ^ k - 1) k (by omega)
  rcases Nat.lt_or_ge (bitLen (2 ^ k - 1)) k with h | h
  · have h2 := bitLen_lt (2 ^ k - 1)
    have h3 : 2 ^ (bitLen (2 ^ k - 1) + 1) ≤ 2 ^ k := Nat.pow_le_pow_right (by decide) (by omega)
    rw [Nat.pow_succ] at h3
    have := Nat.two_pow_pos (bitLen (2 ^ k - 1))
    omega
  · omega
end Go.Proofs.Ytlnlcmdbhkpnhaa
