/- Checksums: plain mathematics, no program. A register of 32 bits; bytes as one great number. -/
namespace Go.Proofs.Ytpcfelccanmggaa

def crcPoly : Nat := 3988292384
def crcOnes : Nat := 4294967295
def cstep (n : Nat) : Nat := if n % 2 = 1 then (n / 2) ^^^ crcPoly else n / 2
def csteps : Nat → Nat → Nat
  | 0, n => n
  | k + 1, n => csteps k (cstep n)
def cadd (c x : Nat) : Nat := csteps 8 (c ^^^ x)
def creg (b : List Nat) : Nat := b.foldl cadd crcOnes
def csum (b : List Nat) : Nat := creg b ^^^ crcOnes
/-- Bytes as a number, the first byte the lowest. -/
def big : List Nat → Nat
  | [] => 0
  | x :: b => x ^^^ (big b <<< 8)

theorem cstep_xor (a b : Nat) : cstep (a ^^^ b) = cstep a ^^^ cstep b := by
  have h2 : (a ^^^ b) / 2 = (a / 2) ^^^ (b / 2) := by
    have := @Nat.shiftRight_xor_distrib 1 a b
    simpa [Nat.shiftRight_eq_div_pow] using this
  have h1 : (a ^^^ b) % 2 = (a % 2 + b % 2) % 2 := by
    have e : (a ^^^ b) % 2 = (a % 2) ^^^ (b % 2) := by
      have := @Nat.xor_mod_two_pow a b 1
      simpa using this
    rw [e]
    rcases Nat.mod_two_eq_zero_or_one a with ha | ha <;> rcases Nat.mod_two_eq_zero_or_one b with hb | hb <;> rw [ha, hb] <;> rfl
  unfold cstep
  rw [h1, h2]
  rcases Nat.mod_two_eq_zero_or_one a with ha | ha <;> rcases Nat.mod_two_eq_zero_or_one b with hb | hb <;> rw [ha, hb] <;> simp
  · rw [Nat.xor_assoc]
  · rw [Nat.xor_assoc, Nat.xor_assoc, Nat.xor_comm (b / 2)]
  · rw [Nat.xor_assoc, ← Nat.xor_assoc crcPoly, Nat.xor_comm crcPoly (b / 2), Nat.xor_assoc, Nat.xor_self, Nat.xor_zero]
theorem csteps_xor : ∀ (k a b : Nat), csteps k (a ^^^ b) = csteps k a ^^^ csteps k b
  | 0, _, _ => rfl
  | k + 1, a, b => by simp only [csteps, cstep_xor, csteps_xor k]
theorem cstep_zero : cstep 0 = 0 := rfl
theorem csteps_zero : ∀ k : Nat, csteps k 0 = 0
  | 0 => rfl
  | k + 1 => by rw [csteps, cstep_zero, csteps_zero k]
theorem csteps_add : ∀ (j k n : Nat), csteps (j + k) n = csteps k (csteps j n)
  | 0, k, n => by rw [Nat.zero_add]; rfl
  | j + 1, k, n => by rw [Nat.add_right_comm]; exact csteps_add j k (cstep n)
theorem cstep_lt (n : Nat) (h : n < 4294967296) : cstep n < 4294967296 := by
  unfold cstep
  split
  · have := @Nat.xor_lt_two_pow (n / 2) crcPoly 32 (by omega) (by decide)
    simpa using this
  · omega
theorem csteps_lt : ∀ (k n : Nat), n < 4294967296 → csteps k n < 4294967296
  | 0, _, h => h
  | k + 1, n, h => csteps_lt k _ (cstep_lt n h)
theorem xor_eq_zero {a b : Nat} (h : a ^^^ b = 0) : a = b := by
  have h2 : a ^^^ b ^^^ b = b := by rw [h, Nat.zero_xor]
  rwa [Nat.xor_assoc, Nat.xor_self, Nat.xor_zero] at h2
theorem cstep_ne (n : Nat) (h : n < 4294967296) (h0 : n ≠ 0) : cstep n ≠ 0 := by
  unfold cstep
  split
  · intro e
    have := xor_eq_zero e
    unfold crcPoly at this; omega
  · omega
theorem csteps_ne : ∀ (k n : Nat), n < 4294967296 → n ≠ 0 → csteps k n ≠ 0
  | 0, _, _, h0 => h0
  | k + 1, n, h, h0 => csteps_ne k _ (cstep_lt n h) (cstep_ne n h h0)
theorem cstep_shl (n : Nat) : cstep (n <<< 1) = n := by
  unfold cstep
  rw [Nat.shiftLeft_eq]
  have : n * 2 ^ 1 % 2 ≠ 1 := by omega
  rw [if_neg this]; omega
theorem csteps_shl : ∀ (k n : Nat), csteps k (n <<< k) = n
  | 0, n => by rw [Nat.shiftLeft_zero]; rfl
  | k + 1, n => by rw [csteps, Nat.shiftLeft_add, cstep_shl, csteps_shl k]
theorem cadd_lt (c x : Nat) (h : c < 4294967296) (hx : x < 256) : cadd c x < 4294967296 := by
  unfold cadd
  exact csteps_lt _ _ (by have := @Nat.xor_lt_two_pow c x 32 (by omega) (by omega); simpa using this)

/-- The register after bytes, as one run over one number. -/
theorem foldl_cadd : ∀ (b : List Nat) (r : Nat), b.foldl cadd r = csteps (8 * b.length) (r ^^^ big b)
  | [], r => by simp [big, csteps]
  | x :: b, r => by
    rw [List.foldl_cons, foldl_cadd b, big, List.length_cons, Nat.mul_add, Nat.mul_one, Nat.add_comm (8 * b.length) 8, csteps_add, ← Nat.xor_assoc, csteps_xor 8, csteps_shl]
    rfl
theorem creg_big (b : List Nat) : creg b = csteps (8 * b.length) (crcOnes ^^^ big b) := foldl_cadd b crcOnes
theorem foldl_lt : ∀ (b : List Nat) (r : Nat), r < 4294967296 → (∀ x ∈ b, x < 256) → b.foldl cadd r < 4294967296
  | [], _, h, _ => h
  | x :: b, r, h, hb => foldl_lt b _ (cadd_lt r x h (hb x (List.mem_cons_self ..))) (fun y hy => hb y (List.mem_cons_of_mem _ hy))
theorem creg_lt (b : List Nat) (hb : ∀ x ∈ b, x < 256) : creg b < 4294967296 := foldl_lt b _ (by decide) hb
theorem csum_lt (b : List Nat) (hb : ∀ x ∈ b, x < 256) : csum b < 4294967296 := by
  have := @Nat.xor_lt_two_pow (creg b) crcOnes 32 (by have := creg_lt b hb; omega) (by decide)
  simpa [csum] using this
theorem csum_append (a b : List Nat) : creg (a ++ b) = b.foldl cadd (creg a) := List.foldl_append

theorem big_append : ∀ (a b : List Nat), big (a ++ b) = big a ^^^ (big b <<< (8 * a.length))
  | [], b => by simp [big]
  | x :: a, b => by
    rw [List.cons_append, big, big, big_append a b, Nat.shiftLeft_xor_distrib, ← Nat.shiftLeft_add, Nat.xor_assoc, List.length_cons, Nat.mul_add, Nat.mul_one]
theorem big_set : ∀ (b : List Nat) (j x : Nat) (h : j < b.length), big (b.set j x) = big b ^^^ ((b[j] ^^^ x) <<< (8 * j))
  | y :: b, 0, x, _ => by
    rw [List.set_cons_zero, big, big, List.getElem_cons_zero, Nat.mul_zero, Nat.shiftLeft_zero]
    rw [Nat.xor_comm y (big b <<< 8), Nat.xor_assoc, ← Nat.xor_assoc y y x, Nat.xor_self, Nat.zero_xor, Nat.xor_comm]
  | y :: b, j + 1, x, h => by
    rw [List.set_cons_succ, big, big, List.getElem_cons_succ, big_set b j x (by simpa using h), Nat.shiftLeft_xor_distrib, ← Nat.shiftLeft_add, ← Nat.xor_assoc, Nat.mul_add, Nat.mul_one]

/-- **Bytes that differ within 32 bits in a row have another sum.** -/
theorem csum_burst (b c : List Nat) (k mask : Nat) (hl : c.length = b.length) (hk : k ≤ 8 * b.length) (hm : mask < 4294967296) (h0 : mask ≠ 0) (hd : big c = big b ^^^ (mask <<< k)) : csum b ≠ csum c := by
  intro e
  have e1 : creg b = creg c := by
    have h1 := congrArg (· ^^^ crcOnes) e
    simp only [csum, Nat.xor_assoc, Nat.xor_self, Nat.xor_zero] at h1
    exact h1
  rw [creg_big, creg_big, hl, hd, ← Nat.xor_assoc, csteps_xor _ (crcOnes ^^^ big b)] at e1
  have e2 : csteps (8 * b.length) (mask <<< k) = 0 := by
    have h1 := congrArg (csteps (8 * b.length) (crcOnes ^^^ big b) ^^^ ·) e1
    simp only [Nat.xor_self, ← Nat.xor_assoc, Nat.zero_xor] at h1
    exact h1.symm
  rw [show 8 * b.length = k + (8 * b.length - k) by omega, csteps_add, csteps_shl] at e2
  exact csteps_ne _ _ hm h0 e2

/-- Sums of three rows of one length. -/
theorem csum_three (x a b c : List Nat) (ha : a.length = x.length) (hb : b.length = x.length) (hc : c.length = x.length) (hx : big x = big a ^^^ big b ^^^ big c) :
    csum x = csum a ^^^ csum b ^^^ csum c := by
  have e : crcOnes ^^^ big x = (crcOnes ^^^ big a) ^^^ (crcOnes ^^^ big b) ^^^ (crcOnes ^^^ big c) := by
    rw [hx]
    apply Nat.eq_of_testBit_eq; intro i
    simp only [Nat.testBit_xor]
    cases crcOnes.testBit i <;> cases (big a).testBit i <;> cases (big b).testBit i <;> cases (big c).testBit i <;> rfl
  simp only [csum, creg_big, ha, hb, hc, e, csteps_xor]
  apply Nat.eq_of_testBit_eq; intro i
  simp only [Nat.testBit_xor]
  generalize (csteps (8 * x.length) crcOnes).testBit i = p0
  generalize (csteps (8 * x.length) (big a)).testBit i = p1
  generalize (csteps (8 * x.length) (big b)).testBit i = p2
  generalize (csteps (8 * x.length) (big c)).testBit i = p3
  generalize crcOnes.testBit i = p4
  cases p0 <;> cases p1 <;> cases p2 <;> cases p3 <;> cases p4 <;> rfl

/-- A row with its sum behind it. -/
theorem csum_ends (b t : List Nat) (hb : ∀ x ∈ b, x < 256) (ht : t.length = 4) (hbig : big t = csum b) : csum (b ++ t) = 558161692 := by
  have e : creg (b ++ t) = csteps 32 crcOnes := by
    rw [csum_append, foldl_cadd, ht, hbig]
    congr 1
    rw [csum, ← Nat.xor_assoc, Nat.xor_self, Nat.zero_xor]
  rw [csum, e]
  decide +kernel
end Go.Proofs.Ytpcfelccanmggaa
