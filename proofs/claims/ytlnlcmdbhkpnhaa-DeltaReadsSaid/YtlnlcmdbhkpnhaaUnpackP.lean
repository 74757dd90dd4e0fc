/- Reading packed numbers: plain mathematics, no program. -/
import Derived.Test.YtlnlcmdbhkpnhaaBitsP
namespace Go.Proofs.Ytlnlcmdbhkpnhaa
set_option linter.unusedVariables false

/-- Bit p of bytes. -/
def bitOf (b : List Nat) (p : Nat) : Bool := (b.getD (p / 8) 0).testBit (p % 8)
/-- The number whose lowest k bits are g's. -/
def numOf (g : Nat → Bool) : Nat → Nat
  | 0 => 0
  | k + 1 => numOf g k ||| ((g k).toNat <<< k)
theorem numOf_testBit (g : Nat → Bool) : ∀ (k m : Nat), (numOf g k).testBit m = (decide (m < k) && g m)
  | 0, m => by simp [numOf]
  | k + 1, m => by
    rw [numOf, Nat.testBit_or, numOf_testBit g k m, testBit_boolShl]
    by_cases h : m = k
    · subst h; simp
    · have e : (m < k) ↔ (m < k + 1) := by omega
      simp [h, e]
theorem numOf_lt (g : Nat → Bool) (k : Nat) : numOf g k < 2 ^ k := by
  apply Nat.lt_pow_two_of_testBit
  intro i hi
  rw [numOf_testBit]; simp; omega
theorem numOf_congr {g h : Nat → Bool} : ∀ {k : Nat}, (∀ m, m < k → g m = h m) → numOf g k = numOf h k
  | 0, _ => rfl
  | k + 1, e => by rw [numOf, numOf, numOf_congr (fun m hm => e m (by omega)), e k (by omega)]
theorem numOf_self (v k : Nat) : numOf v.testBit k = v % 2 ^ k := by
  apply Nat.eq_of_testBit_eq
  intro i
  rw [numOf_testBit, Nat.testBit_mod_two_pow]

/-- The n numbers of wd bits in bytes. -/
def unpacked (b : List Nat) (n wd : Nat) : List Nat := (List.range n).map fun i => numOf (fun k => bitOf b (i * wd + k)) wd
/-- Every bit from 'f' on is nought. -/
def tailClear (b : List Nat) (f : Nat) : Bool := (List.range (8 * b.length)).all fun p => decide (p < f) || !bitOf b p
/-- What Unpack answers: the numbers, and the error's number. -/
def unpackSpec (b : List Nat) (n width : Int) : List Nat × Nat :=
  if n < 0 ∨ 4000 < n ∨ width < 0 ∨ 64 < width then ([], 1)
  else if b.length < packSize n.toNat width.toNat then ([], 8)
  else if packSize n.toNat width.toNat < b.length then ([], 9)
  else if tailClear b (n.toNat * width.toNat) then (unpacked b n.toNat width.toNat, 0) else ([], 10)

theorem tailClear_iff (b : List Nat) (f : Nat) : tailClear b f = true ↔ ∀ p, f ≤ p → p < 8 * b.length → bitOf b p = false := by
  unfold tailClear
  rw [List.all_eq_true]
  constructor
  · intro h p h1 h2
    have := h p (List.mem_range.2 h2)
    simpa [Nat.not_lt.2 h1] using this
  · intro h p hp
    rcases Nat.lt_or_ge p f with hf | hf
    · simp [hf]
    · simp [h p hf (List.mem_range.1 hp)]
theorem unpacked_length (b : List Nat) (n wd : Nat) : (unpacked b n wd).length = n := by simp [unpacked]
theorem unpacked_lt (b : List Nat) (n wd : Nat) (hw : wd ≤ 64) : ∀ x ∈ unpacked b n wd, x < 18446744073709551616 := by
  intro x hx
  obtain ⟨i, -, rfl⟩ := List.mem_map.1 hx
  exact Nat.lt_of_lt_of_le (numOf_lt _ _) (Nat.le_trans (Nat.pow_le_pow_right (by decide) hw) (by decide))
theorem unpackSpec_lt (b : List Nat) (n width : Int) : ∀ x ∈ (unpackSpec b n width).1, x < 18446744073709551616 := by
  unfold unpackSpec
  split
  · simp
  · split
    · simp
    · split
      · simp
      · split
        · exact unpacked_lt _ _ _ (by omega)
        · simp
theorem unpackSpec_le (b : List Nat) (n width : Int) : (unpackSpec b n width).1.length ≤ 4000 := by
  unfold unpackSpec
  split
  · simp
  · split
    · simp
    · split
      · simp
      · split
        · rw [unpacked_length]; omega
        · simp
theorem unpackSpec_err (b : List Nat) (n width : Int) : (unpackSpec b n width).2 ≤ 10 := by
  unfold unpackSpec; repeat' split
  all_goals simp

/-- The first k of n numbers, and j bits of the next one; noughts behind. -/
def unpackTo (b : List Nat) (n wd k j : Nat) : List Nat := (List.range n).map fun i => if i < k then numOf (fun m => bitOf b (i * wd + m)) wd else if i = k then numOf (fun m => bitOf b (i * wd + m)) j else 0
theorem unpackTo_length (b : List Nat) (n wd k j : Nat) : (unpackTo b n wd k j).length = n := by simp [unpackTo]
theorem unpackTo_zero (b : List Nat) (n wd : Nat) : unpackTo b n wd 0 0 = List.replicate n 0 := by
  refine List.ext_getElem (by simp [unpackTo]) fun i h1 h2 => ?_
  simp only [unpackTo, List.getElem_map, List.getElem_range, List.getElem_replicate]
  rw [if_neg (by omega)]
  split <;> rfl
theorem unpackTo_next (b : List Nat) (n wd k : Nat) : unpackTo b n wd k wd = unpackTo b n wd (k + 1) 0 := by
  unfold unpackTo
  refine List.map_congr_left fun i _ => ?_
  by_cases h1 : i < k
  · rw [if_pos h1, if_pos (by omega)]
  · by_cases h2 : i = k
    · subst h2; rw [if_neg (by omega), if_pos rfl, if_pos (by omega)]
    · rw [if_neg h1, if_neg h2, if_neg (by omega)]
      split <;> rfl
theorem unpackTo_all (b : List Nat) (n wd : Nat) : unpackTo b n wd n 0 = unpacked b n wd := by
  unfold unpackTo unpacked
  refine List.map_congr_left fun i hi => ?_
  rw [if_pos (List.mem_range.1 hi)]
theorem unpackTo_getD (b : List Nat) (n wd k j : Nat) (hk : k < n) : (unpackTo b n wd k j).getD k 0 = numOf (fun m => bitOf b (k * wd + m)) j := by
  simp [unpackTo, List.getD_eq_getElem?_getD, hk]
theorem unpackTo_succ (b : List Nat) (n wd k j : Nat) (hk : k < n) :
    (unpackTo b n wd k j).set k (numOf (fun m => bitOf b (k * wd + m)) j ||| ((bitOf b (k * wd + j)).toNat <<< j)) = unpackTo b n wd k (j + 1) := by
  refine List.ext_getElem (by simp [unpackTo]) fun i h1 h2 => ?_
  rw [List.getElem_set]
  split
  · rename_i h; subst h
    simp [unpackTo, numOf]
  · rename_i h
    simp only [unpackTo, List.getElem_map, List.getElem_range]
    rw [if_neg (show ¬ i = k by omega), if_neg (show ¬ i = k by omega)]

/-! Packed and read again. -/
theorem bitOf_packTo (g : Nat → Bool) (N t p : Nat) (hp : p < 8 * N) : bitOf (packTo g N t) p = (decide (p < t) && g p) := by
  unfold bitOf
  rw [packTo_getD _ _ _ _ (by omega), byteOf_testBit _ _ (by omega), Nat.div_add_mod]
theorem bitOf_packed (l : List Nat) (wd p : Nat) (hp : p < l.length * wd) : bitOf (packed l wd) p = bitAt l wd p := by
  rw [packed, bitOf_packTo _ _ _ _ (by unfold packSize; omega)]; simp [hp]
theorem tailClear_packed (l : List Nat) (wd : Nat) : tailClear (packed l wd) (l.length * wd) = true := by
  rw [tailClear_iff]
  intro p h1 h2
  rw [packed_length] at h2
  rw [packed, bitOf_packTo _ _ _ _ h2]
  simp [Nat.not_lt.2 h1]
theorem unpacked_packed (l : List Nat) (wd : Nat) : unpacked (packed l wd) l.length wd = l.map (· % 2 ^ wd) := by
  refine List.ext_getElem (by simp [unpacked]) fun i h1 h2 => ?_
  have hi : i < l.length := by simpa using h2
  simp only [unpacked, List.getElem_map, List.getElem_range]
  rw [← numOf_self]
  refine numOf_congr fun m hm => ?_
  have hlt : i * wd + m < l.length * wd := by
    have : (i + 1) * wd ≤ l.length * wd := Nat.mul_le_mul_right _ hi
    rw [Nat.add_mul] at this; omega
  rw [bitOf_packed l wd _ hlt, bitAt_at l wd i m hm, List.getD_eq_getElem?_getD, List.getElem?_eq_getElem hi]
  rfl
theorem unpackSpec_packed (l : List Nat) (wd : Nat) (hn : l.length ≤ 4000) (hw : wd ≤ 64) : unpackSpec (packed l wd) l.length wd = (l.map (· % 2 ^ wd), 0) := by
  unfold unpackSpec
  rw [if_neg (by omega)]
  simp only [Int.toNat_natCast, packed_length, Nat.lt_irrefl, if_false, tailClear_packed, if_true, unpacked_packed]
end Go.Proofs.Ytlnlcmdbhkpnhaa
