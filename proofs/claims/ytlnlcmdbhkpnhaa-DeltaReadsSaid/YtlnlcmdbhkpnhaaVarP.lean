/- Chapter 3: numbers of any length: plain mathematics. -/
import Derived.Test.YtlnlcmdbhkpnhaaBitsP
namespace Go.Proofs.Ytlnlcmdbhkpnhaa

set_option linter.unusedVariables false

/-- A number's bytes. -/
def vputF : Nat → Nat → List Nat
  | 0, v => [v]
  | n + 1, v => if v < 128 then [v] else (v % 128 + 128) :: vputF n (v / 128)
def vputB (v : Nat) : List Nat := vputF 9 v
theorem vputF_lt (n : Nat) : ∀ v, v < 128 * 128 ^ n → ∀ x ∈ vputF n v, x < 256 := by
  induction n with
  | zero => intro v hv x hx; simp [vputF] at hx; omega
  | succ n ih =>
    intro v hv x hx
    unfold vputF at hx
    split at hx
    · simp at hx; omega
    · rcases List.mem_cons.1 hx with h | h
      · omega
      · exact ih (v / 128) (by rw [Nat.pow_succ] at hv; omega) x h
theorem vputB_lt (v : Nat) (hv : v < 18446744073709551616) : ∀ x ∈ vputB v, x < 256 := vputF_lt 9 v (by omega)
theorem vputF_length (n v : Nat) : 1 ≤ (vputF n v).length ∧ (vputF n v).length ≤ n + 1 := by
  induction n generalizing v with
  | zero => simp [vputF]
  | succ n ih =>
    unfold vputF
    split
    · simp
    · have := ih (v / 128); simp only [List.length_cons]; omega
theorem vputB_length (v : Nat) : 1 ≤ (vputB v).length ∧ (vputB v).length ≤ 10 := vputF_length 9 v
theorem vputB_small (v : Nat) (h : v < 128) : vputB v = [v] := by unfold vputB vputF; rw [if_pos h]

/-- What is read of bytes: the number, how many bytes it has, the error. -/
def vgetR : List Nat → Nat → Nat → Nat × Nat × Nat
  | [], _, _ => (0, 0, 8)
  | x :: t, k, v => if k = 9 ∧ 1 < x then (0, 0, 14) else if x < 128 then (if x = 0 ∧ 0 < k then (0, 0, 10) else (v + x * 2 ^ (7 * k), k + 1, 0)) else vgetR t (k + 1) (v + x % 128 * 2 ^ (7 * k))
def vgetM (b : List Nat) : Nat × Nat × Nat := vgetR b 0 0

theorem vgetR_n (b : List Nat) : ∀ k v, (vgetR b k v).2.1 ≤ k + b.length ∧ ((vgetR b k v).2.2 = 0 → k < (vgetR b k v).2.1) := by
  induction b with
  | nil => intro k v; simp [vgetR]
  | cons x t ih =>
    intro k v
    unfold vgetR
    split
    · simp
    split
    · split
      · simp
      · simp only [List.length_cons]; omega
    · have := ih (k + 1) (v + x % 128 * 2 ^ (7 * k))
      simp only [List.length_cons]
      exact ⟨by omega, fun h => by have := this.2 h; omega⟩
theorem vgetM_n (b : List Nat) : (vgetM b).2.1 ≤ b.length := by have := (vgetR_n b 0 0).1; unfold vgetM; omega
theorem vgetM_pos (b : List Nat) (h : (vgetM b).2.2 = 0) : 0 < (vgetM b).2.1 := (vgetR_n b 0 0).2 h
theorem vgetR_lt (b : List Nat) : ∀ k v, k ≤ 9 → v < 2 ^ (7 * k) → (vgetR b k v).1 < 18446744073709551616 := by
  induction b with
  | nil => intro k v _ _; simp [vgetR]
  | cons x t ih =>
    intro k v hk hv
    unfold vgetR
    split
    · simp
    rename_i h9
    split
    · split
      · simp
      · rename_i hx _
        have hk' : k ≤ 8 ∨ k = 9 := by omega
        rcases hk' with h8 | rfl
        · have : 2 ^ (7 * k) ≤ 2 ^ 56 := Nat.pow_le_pow_right (by decide) (by omega)
          have : x * 2 ^ (7 * k) ≤ 127 * 2 ^ 56 := Nat.mul_le_mul (by omega) this
          show v + x * 2 ^ (7 * k) < _
          omega
        · have : x ≤ 1 := by omega
          have : x * 2 ^ (7 * 9) ≤ 1 * 2 ^ (7 * 9) := Nat.mul_le_mul_right _ this
          show v + x * 2 ^ (7 * 9) < _
          omega
    · rename_i hx
      have h8 : k ≤ 8 := by omega
      refine ih (k + 1) _ (by omega) ?_
      have : x % 128 * 2 ^ (7 * k) ≤ 127 * 2 ^ (7 * k) := Nat.mul_le_mul_right _ (by omega)
      rw [show 7 * (k + 1) = 7 * k + 7 by omega, Nat.pow_add]
      omega
theorem vgetM_lt (b : List Nat) : (vgetM b).1 < 18446744073709551616 := vgetR_lt b 0 0 (by omega) (by simp)
/-- What is above a number's bits is laid on as a sum. -/
theorem or_add (v x k : Nat) (hv : v < 2 ^ k) : v ||| (x * 2 ^ k) = v + x * 2 ^ k := by
  have := Nat.two_pow_add_eq_or_of_lt hv x
  rw [Nat.or_comm, Nat.mul_comm, ← this, Nat.mul_comm, Nat.add_comm]

/-- What was written is read, whatever stands behind. -/
theorem vgetR_put (R : List Nat) (n : Nat) : ∀ v k u, n + k = 9 → u < 2 ^ (7 * k) → v < 2 * 128 ^ n → (v = 0 → k = 0) → vgetR (vputF n v ++ R) k u = (u + v * 2 ^ (7 * k), k + (vputF n v).length, 0) := by
  induction n with
  | zero =>
    intro v k u hk hu hv h0
    simp only [vputF, List.cons_append, List.nil_append]
    unfold vgetR
    rw [if_neg (by omega), if_pos (by omega), if_neg (by omega)]
    simp
  | succ n ih =>
    intro v k u hk hu hv h0
    unfold vputF
    by_cases h : v < 128
    · rw [if_pos h]
      simp only [List.cons_append, List.nil_append]
      unfold vgetR
      rw [if_neg (by omega), if_pos h, if_neg (by omega)]
      simp
    · rw [if_neg h, List.cons_append]
      unfold vgetR
      rw [if_neg (by omega), if_neg (by omega)]
      have hm : (v % 128 + 128) % 128 = v % 128 := by omega
      rw [hm]
      have hb : v % 128 * 2 ^ (7 * k) ≤ 127 * 2 ^ (7 * k) := Nat.mul_le_mul_right _ (by omega)
      rw [ih (v / 128) (k + 1) _ (by omega) (by rw [show 7 * (k + 1) = 7 * k + 7 by omega, Nat.pow_add]; omega) (by rw [Nat.pow_succ] at hv; omega) (by omega)]
      refine Prod.ext ?_ (Prod.ext ?_ rfl)
      · show u + v % 128 * 2 ^ (7 * k) + v / 128 * 2 ^ (7 * (k + 1)) = u + v * 2 ^ (7 * k)
        rw [show 7 * (k + 1) = 7 + 7 * k by omega, Nat.pow_add, ← Nat.mul_assoc, Nat.add_assoc, ← Nat.add_mul]
        congr 2
        omega
      · simp only [List.length_cons]; omega
theorem vgetM_put (v : Nat) (R : List Nat) (hv : v < 18446744073709551616) : vgetM (vputB v ++ R) = (v, (vputB v).length, 0) := by
  have h := vgetR_put R 9 v 0 0 (by omega) (by simp) (by omega) (by omega)
  unfold vgetM vputB
  rw [h]
  simp
end Go.Proofs.Ytlnlcmdbhkpnhaa
