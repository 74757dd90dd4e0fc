/- Two bytes changed about; three rows' exclusive or: plain mathematics over chapter 4's sums. -/
import Derived.Test.YtpcfelccanmggaaCrcP
namespace Go.Proofs.Ytpcfelccanmggaa

theorem shl_lt (d s : Nat) (hd : d < 256) (hs : s ≤ 24) : d <<< s < 4294967296 := by
  rw [Nat.shiftLeft_eq]
  have h1 : 2 ^ s ≤ 2 ^ 24 := Nat.pow_le_pow_right (by decide) hs
  calc d * 2 ^ s ≤ d * 2 ^ 24 := Nat.mul_le_mul_left _ h1
    _ < 256 * 2 ^ 24 := Nat.mul_lt_mul_of_pos_right hd (by decide)
    _ = 4294967296 := by decide
theorem csum_swap (b : List Nat) (i k x y : Nat) (hik : i < k) (hk : k < b.length) (hk3 : k ≤ i + 3) (hx : b[i]'(by omega) = x) (hy : b[k] = y) (hx2 : x < 256) (hy2 : y < 256) (hne : x ≠ y) :
    csum b ≠ csum ((b.set i y).set k x) := by
  obtain ⟨d, hd⟩ : ∃ d, d = x ^^^ y := ⟨_, rfl⟩
  have hd0 : d ≠ 0 := fun h => hne (xor_eq_zero (by rw [← hd, h]))
  have hd2 : d < 256 := by
    have := @Nat.xor_lt_two_pow x y 8 (by omega) (by omega)
    rw [hd]; simpa using this
  obtain ⟨s, hs⟩ : ∃ s, k = i + s := ⟨k - i, by omega⟩
  subst hs
  have hbig : big ((b.set i y).set (i + s) x) = big b ^^^ ((d ^^^ (d <<< (8 * s))) <<< (8 * i)) := by
    have e1 := big_set b i y (by omega)
    have e2 := big_set (b.set i y) (i + s) x (by simp; omega)
    rw [e2, e1, hx]
    have e3 : (b.set i y)[i + s]'(by simp; omega) = y := by rw [List.getElem_set_ne (by omega)]; exact hy
    rw [e3, Nat.xor_comm y x, ← hd, Nat.xor_assoc, Nat.shiftLeft_xor_distrib, ← Nat.shiftLeft_add]
    congr 3
    omega
  refine csum_burst b _ (8 * i) (d ^^^ (d <<< (8 * s))) (by simp) (by omega) ?_ ?_ hbig
  · have h1 := shl_lt d (8 * s) hd2 (by omega)
    have := @Nat.xor_lt_two_pow d (d <<< (8 * s)) 32 (by omega) (by omega)
    simpa using this
  · intro h
    have h2 := xor_eq_zero h
    rw [Nat.shiftLeft_eq] at h2
    have h3 : 2 ^ 8 ≤ 2 ^ (8 * s) := Nat.pow_le_pow_right (by decide) (by omega)
    have h4 : d * 2 ^ 8 ≤ d * 2 ^ (8 * s) := Nat.mul_le_mul_left _ h3
    omega
theorem swap_same (b : List Nat) (i k x : Nat) (hi : i < b.length) (hk : k < b.length) (hx : b[i] = x) (hy : b[k] = x) : (b.set i x).set k x = b := by
  have h1 : b.set i x = b := by rw [← hx]; exact List.set_getElem_self hi
  rw [h1, ← hy]; exact List.set_getElem_self hk

/-- Three rows of one length, turned together. -/
theorem big_xor3 : ∀ (a b c : List Nat) (n : Nat), a.length = n → b.length = n → c.length = n →
    big ((List.range n).map fun i => (a.getD i 0 ^^^ b.getD i 0) ^^^ c.getD i 0) = big a ^^^ big b ^^^ big c := by
  intro a
  induction a with
  | nil =>
    intro b c n ha hb hc
    simp at ha
    subst ha
    rw [List.length_eq_zero_iff] at hb hc
    subst hb hc
    simp [big]
  | cons x a ih =>
    intro b c n ha hb hc
    match b, c with
    | [], _ => simp at ha hb; omega
    | _, [] => simp at ha hc; omega
    | y :: b, z :: c =>
      simp only [List.length_cons] at ha hb hc
      obtain ⟨m, rfl⟩ : ∃ m, n = m + 1 := ⟨n - 1, by omega⟩
      have h := ih b c m (by omega) (by omega) (by omega)
      rw [List.range_succ_eq_map, List.map_cons, List.map_map, big]
      have e : ((List.range m).map ((fun i => ((x :: a).getD i 0 ^^^ (y :: b).getD i 0) ^^^ (z :: c).getD i 0) ∘ Nat.succ)) = (List.range m).map fun i => (a.getD i 0 ^^^ b.getD i 0) ^^^ c.getD i 0 := by
        apply List.map_congr_left
        intro i _
        simp
      rw [e, h]
      simp only [big, List.getD_cons_zero, Nat.shiftLeft_xor_distrib]
      ac_rfl
end Go.Proofs.Ytpcfelccanmggaa
