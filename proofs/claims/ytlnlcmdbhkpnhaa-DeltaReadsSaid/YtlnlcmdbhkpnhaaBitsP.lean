/- Bits in bytes: plain mathematics, no program. -/
import Derived.Laws.Bits64b
import Derived.Laws.BitsLemmas
namespace Go.Proofs.Ytlnlcmdbhkpnhaa

/-- Bit p of numbers of wd bits, one behind the other. -/
def bitAt (l : List Nat) (wd p : Nat) : Bool := (l.getD (p / wd) 0).testBit (p % wd)
def byteOf (f : Nat → Bool) : Nat :=
  (f 0).toNat + 2 * (f 1).toNat + 4 * (f 2).toNat + 8 * (f 3).toNat + 16 * (f 4).toNat + 32 * (f 5).toNat + 64 * (f 6).toNat + 128 * (f 7).toNat
/-- N bytes, of whose bits the first t are g's. -/
def packTo (g : Nat → Bool) (N t : Nat) : List Nat := (List.range N).map fun j => byteOf fun m => decide (8 * j + m < t) && g (8 * j + m)
def packSize (n wd : Nat) : Nat := (n * wd + 7) / 8
def packed (l : List Nat) (wd : Nat) : List Nat := packTo (bitAt l wd) (packSize l.length wd) (l.length * wd)

theorem byteOf_congr {f g : Nat → Bool} (h : ∀ m, m < 8 → f m = g m) : byteOf f = byteOf g := by
  unfold byteOf; rw [h 0 (by omega), h 1 (by omega), h 2 (by omega), h 3 (by omega), h 4 (by omega), h 5 (by omega), h 6 (by omega), h 7 (by omega)]
theorem toNat_le (b : Bool) : b.toNat ≤ 1 := by cases b <;> decide
theorem byteOf_lt (f : Nat → Bool) : byteOf f < 256 := by
  unfold byteOf
  have h0 := toNat_le (f 0); have h1 := toNat_le (f 1); have h2 := toNat_le (f 2); have h3 := toNat_le (f 3)
  have h4 := toNat_le (f 4); have h5 := toNat_le (f 5); have h6 := toNat_le (f 6); have h7 := toNat_le (f 7)
  omega
theorem byteOf_false : byteOf (fun _ => false) = 0 := by decide
def byte8 (a0 a1 a2 a3 a4 a5 a6 a7 : Bool) : Nat := a0.toNat + 2 * a1.toNat + 4 * a2.toNat + 8 * a3.toNat + 16 * a4.toNat + 32 * a5.toNat + 64 * a6.toNat + 128 * a7.toNat
theorem byte8_test : ∀ a0 a1 a2 a3 a4 a5 a6 a7 : Bool, (byte8 a0 a1 a2 a3 a4 a5 a6 a7).testBit 0 = a0 ∧ (byte8 a0 a1 a2 a3 a4 a5 a6 a7).testBit 1 = a1 ∧ (byte8 a0 a1 a2 a3 a4 a5 a6 a7).testBit 2 = a2 ∧ (byte8 a0 a1 a2 a3 a4 a5 a6 a7).testBit 3 = a3
    ∧ (byte8 a0 a1 a2 a3 a4 a5 a6 a7).testBit 4 = a4 ∧ (byte8 a0 a1 a2 a3 a4 a5 a6 a7).testBit 5 = a5 ∧ (byte8 a0 a1 a2 a3 a4 a5 a6 a7).testBit 6 = a6 ∧ (byte8 a0 a1 a2 a3 a4 a5 a6 a7).testBit 7 = a7 := by decide +kernel
theorem byteOf_testBit (f : Nat → Bool) (m : Nat) (hm : m < 8) : (byteOf f).testBit m = f m := by
  have h := byte8_test (f 0) (f 1) (f 2) (f 3) (f 4) (f 5) (f 6) (f 7)
  match m, hm with
  | 0, _ => exact h.1
  | 1, _ => exact h.2.1
  | 2, _ => exact h.2.2.1
  | 3, _ => exact h.2.2.2.1
  | 4, _ => exact h.2.2.2.2.1
  | 5, _ => exact h.2.2.2.2.2.1
  | 6, _ => exact h.2.2.2.2.2.2.1
  | 7, _ => exact h.2.2.2.2.2.2.2
/-- Two bytes with the same bits are one. -/
theorem byte_ext {a b : Nat} (ha : a < 256) (hb : b < 256) (h : ∀ m, m < 8 → a.testBit m = b.testBit m) : a = b := by
  apply Nat.eq_of_testBit_eq
  intro i
  rcases Nat.lt_or_ge i 8 with hi | hi
  · exact h i hi
  · have e : 2 ^ 8 ≤ 2 ^ i := Nat.pow_le_pow_right (by decide) hi
    rw [Nat.testBit_lt_two_pow (by omega), Nat.testBit_lt_two_pow (by omega)]
theorem byteOf_self {a : Nat} (ha : a < 256) : byteOf a.testBit = a := byte_ext (byteOf_lt _) ha fun m hm => byteOf_testBit _ m hm
theorem shl_bit_lt (b : Bool) (k : Nat) (hk : k < 8) : b.toNat <<< k < 256 := by
  have h1 := toNat_le b
  have h2 : 2 ^ k ≤ 2 ^ 7 := Nat.pow_le_pow_right (by decide) (by omega)
  rw [Nat.shiftLeft_eq]
  have : b.toNat * 2 ^ k ≤ 1 * 2 ^ k := Nat.mul_le_mul_right _ h1
  omega
theorem testBit_boolShl (b : Bool) (k m : Nat) : (b.toNat <<< k).testBit m = (decide (m = k) && b) := by
  rw [Nat.testBit_shiftLeft]
  by_cases h : m = k
  · subst h; cases b <;> simp
  · by_cases h2 : k ≤ m
    · have : 0 < m - k := by omega
      simp [h, h2]
      cases b
      · simp
      · exact Nat.testBit_lt_two_pow (by have := Nat.one_lt_two_pow (n := m - k) (by omega); simpa using this)
    · simp [h, h2]
theorem byteOf_or (f : Nat → Bool) (b : Bool) (k : Nat) (hk : k < 8) : byteOf f ||| (b.toNat <<< k) = byteOf (fun m => f m || (decide (m = k) && b)) := by
  refine byte_ext (by have := Nat.or_lt_two_pow (n := 8) (byteOf_lt f) (shl_bit_lt b k hk); simpa using this) (byteOf_lt _) fun m hm => ?_
  rw [Nat.testBit_or, byteOf_testBit _ m hm, byteOf_testBit _ m hm, testBit_boolShl]

theorem packTo_length (g : Nat → Bool) (N t : Nat) : (packTo g N t).length = N := by simp [packTo]
theorem packTo_getD (g : Nat → Bool) (N t j : Nat) (hj : j < N) : (packTo g N t).getD j 0 = byteOf fun m => decide (8 * j + m < t) && g (8 * j + m) := by
  simp [packTo, List.getD_eq_getElem?_getD, hj]
theorem packTo_zero (g : Nat → Bool) (N : Nat) : packTo g N 0 = List.replicate N 0 := by
  refine List.ext_getElem (by simp [packTo]) fun j h1 h2 => ?_
  simp [packTo, byteOf_false]
theorem packTo_lt (g : Nat → Bool) (N t : Nat) : ∀ x ∈ packTo g N t, x < 256 := by
  intro x hx
  obtain ⟨j, _, rfl⟩ := List.mem_map.1 hx
  exact byteOf_lt _
theorem packTo_getD_lt (g : Nat → Bool) (N t j : Nat) : (packTo g N t).getD j 0 < 256 := by
  rcases Nat.lt_or_ge j N with h | h
  · rw [packTo_getD _ _ _ _ h]; exact byteOf_lt _
  · rw [List.getD_eq_getElem?_getD, List.getElem?_eq_none (by rw [packTo_length]; exact h)]; decide
/-- One bit more. -/
theorem packTo_succ (g : Nat → Bool) (N t : Nat) (ht : t / 8 < N) :
    (packTo g N t).set (t / 8) ((packTo g N t).getD (t / 8) 0 ||| ((g t).toNat <<< (t % 8))) = packTo g N (t + 1) := by
  refine List.ext_getElem (by simp [packTo]) fun j h1 h2 => ?_
  have hj : j < N := by simpa [packTo] using h2
  rw [List.getElem_set]
  split
  · rename_i h
    subst h
    rw [packTo_getD _ _ _ _ ht, byteOf_or _ _ _ (by omega)]
    simp only [packTo, List.getElem_map, List.getElem_range]
    refine byteOf_congr fun m hm => ?_
    have e := Nat.div_add_mod t 8
    by_cases hmt : m = t % 8
    · subst hmt; simp [e]
    · have : (8 * (t / 8) + m < t) ↔ (8 * (t / 8) + m < t + 1) := by omega
      simp [hmt, this]
  · rename_i h
    simp only [packTo, List.getElem_map, List.getElem_range]
    refine byteOf_congr fun m hm => ?_
    have : (8 * j + m < t) ↔ (8 * j + m < t + 1) := by omega
    simp [this]
/-- A bit that is nought turns nothing. -/
theorem packTo_skip (g : Nat → Bool) (N t : Nat) (hg : g t = false) : packTo g N t = packTo g N (t + 1) := by
  unfold packTo
  refine List.map_congr_left fun j _ => byteOf_congr fun m hm => ?_
  by_cases h : 8 * j + m = t
  · rw [h, hg]; simp
  · have : (8 * j + m < t) ↔ (8 * j + m < t + 1) := by omega
    simp [this]

theorem bitAt_at (l : List Nat) (wd k m : Nat) (hm : m < wd) : bitAt l wd (k * wd + m) = (l.getD k 0).testBit m := by
  unfold bitAt
  have h1 : (k * wd + m) / wd = k := by rw [Nat.mul_comm, Nat.mul_add_div (by omega), Nat.div_eq_of_lt hm]; omega
  have h2 : (k * wd + m) % wd = m := by rw [Nat.mul_comm, Nat.mul_add_mod, Nat.mod_eq_of_lt hm]
  rw [h1, h2]
theorem packed_length (l : List Nat) (wd : Nat) : (packed l wd).length = packSize l.length wd := packTo_length _ _ _
theorem packed_lt (l : List Nat) (wd : Nat) : ∀ x ∈ packed l wd, x < 256 := packTo_lt _ _ _

/-! The program's own words. -/
theorem int_shr_nat (v m : Nat) : ((v : Int) >>> m) = ((v >>> m : Nat) : Int) := rfl
theorem and_one_testBit (v m : Nat) : (v >>> m) &&& 1 = (v.testBit m).toNat := by
  rw [Nat.and_one_is_mod, Nat.shiftRight_eq_div_pow, Nat.toNat_testBit]
theorem bits_and_one_u64 (v m : Nat) (hv : v < 18446744073709551616) : bits .and .u64 ((v : Int) >>> m) 1 = ((v.testBit m).toNat : Nat) := by
  have h : v >>> m < 18446744073709551616 := Nat.lt_of_le_of_lt (Nat.shiftRight_le v m) hv
  rw [int_shr_nat]
  exact (bits_and_u64_nat (v >>> m) 1 h (by decide)).trans (by rw [and_one_testBit])
theorem wraps8 (n : Int) (h0 : 0 ≤ n) (h1 : n < 2 ^ 8) : IntKind.u8.wrap n = n := by rw [IntKind.wrap_u8]; omega
theorem bits_or_u8 (a b : Nat) (ha : a < 256) (hb : b < 256) : bits .or .u8 (a : Int) (b : Int) = ((a ||| b : Nat) : Int) :=
  (bits_nat .u8 8 (by decide) wraps8 a b ha hb).2
theorem bits_and_u8 (a b : Nat) (ha : a < 256) (hb : b < 256) : bits .and .u8 (a : Int) (b : Int) = ((a &&& b : Nat) : Int) :=
  (bits_nat .u8 8 (by decide) wraps8 a b ha hb).1
theorem bool_shl_cast (b : Bool) (k : Nat) (hk : k < 8) : ((b.toNat : Nat) : Int) % 256 * 2 ^ k % 256 = ((b.toNat <<< k : Nat) : Int) := by
  have h1 := toNat_le b
  have h2 := shl_bit_lt b k hk
  rw [Nat.shiftLeft_eq] at h2 ⊢
  have e : ((b.toNat : Nat) : Int) % 256 = (b.toNat : Nat) := by omega
  rw [e]
  have e2 : ((b.toNat * 2 ^ k : Nat) : Int) = (b.toNat : Int) * 2 ^ k := by simp
  rw [← e2]
  omega
/-- What Pack stores. -/
theorem pack_store (old v m k : Nat) (ho : old < 256) (hv : v < 18446744073709551616) (hk : k < 8) :
    bits .or .u8 (old : Int) (bits .and .u64 ((v : Int) >>> m) 1 % 256 * 2 ^ k % 256) = ((old ||| ((v.testBit m).toNat <<< k) : Nat) : Int) := by
  rw [bits_and_one_u64 v m hv, bool_shl_cast _ k hk, bits_or_u8 _ _ ho (shl_bit_lt _ _ hk)]
/-- What the document's Pack asks, and stores. -/
theorem bits_and_one_div_u64 (v m : Nat) (hv : v < 18446744073709551616) : bits .and .u64 ((v : Int) / 2 ^ m) 1 = ((v.testBit m).toNat : Nat) := by
  have h : v >>> m < 18446744073709551616 := Nat.lt_of_le_of_lt (Nat.shiftRight_le v m) hv
  have e : ((v : Int) / 2 ^ m) = ((v >>> m : Nat) : Int) := by rw [Nat.shiftRight_eq_div_pow]; simp
  rw [e]
  exact (bits_and_u64_nat (v >>> m) 1 h (by decide)).trans (by rw [and_one_testBit])
theorem rpack_test (v m : Nat) (hv : v < 18446744073709551616) : (bits .and .u64 ((v : Int) / 2 ^ m) 1 == 1) = v.testBit m := by
  rw [bits_and_one_div_u64 v m hv]; cases v.testBit m <;> rfl
theorem pow_cast8 (k : Nat) (hk : k < 8) : (2 : Int) ^ k % 256 = ((true.toNat <<< k : Nat) : Int) := by
  match k, hk with
  | 0, _ => rfl
  | 1, _ => rfl
  | 2, _ => rfl
  | 3, _ => rfl
  | 4, _ => rfl
  | 5, _ => rfl
  | 6, _ => rfl
  | 7, _ => rfl
theorem rpack_store (old k : Nat) (ho : old < 256) (hk : k < 8) :
    bits .or .u8 (old : Int) (2 ^ k % 256) = ((old ||| (true.toNat <<< k) : Nat) : Int) := by
  rw [pow_cast8 k hk, bits_or_u8 _ _ ho (shl_bit_lt _ _ hk)]
end Go.Proofs.Ytlnlcmdbhkpnhaa
