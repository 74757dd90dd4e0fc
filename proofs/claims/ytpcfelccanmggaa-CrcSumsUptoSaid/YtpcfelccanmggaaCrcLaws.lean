/- Chapter 4's laws: the walks over CrcTurned, CrcBytes, CrcEnds. -/
import Derived.Test.YtpcfelccanmggaaCrcRS
namespace Go.Proofs.Ytpcfelccanmggaa
open Go.RowKit
set_option linter.unusedVariables false

theorem and_one_testBit (v m : Nat) : (v >>> m) &&& 1 = (v.testBit m).toNat := by
  rw [Nat.and_one_is_mod, Nat.shiftRight_eq_div_pow, Nat.toNat_testBit]
theorem mask_test (v m : Nat) (hv : v < 4294967296) : (bits .and .u32 ((v : Int) / 2 ^ m) 1 == 1) = v.testBit m := by
  have h : v >>> m < 4294967296 := Nat.lt_of_le_of_lt (Nat.shiftRight_le v m) hv
  have e : ((v : Int) / 2 ^ m) = ((v >>> m : Nat) : Int) := by rw [Nat.shiftRight_eq_div_pow]; simp
  have h2 : bits .and .u32 ((v >>> m : Nat) : Int) 1 = ((v.testBit m).toNat : Nat) := (bits_and_u32 (v >>> m) 1 h (by decide)).trans (by rw [and_one_testBit])
  rw [e, h2]; cases v.testBit m <;> rfl
theorem mod_succ_xor (v i : Nat) : v % 2 ^ (i + 1) = (v % 2 ^ i) ^^^ ((v.testBit i).toNat <<< i) := by
  apply Nat.eq_of_testBit_eq
  intro j
  rw [Nat.testBit_xor, Nat.testBit_mod_two_pow, Nat.testBit_mod_two_pow, Nat.testBit_shiftLeft]
  by_cases h : j = i
  · subst h; cases v.testBit j <;> simp
  · by_cases h2 : j < i
    · have h3 : j < i + 1 := by omega
      have h4 : ¬ i ≤ j := by omega
      simp [h2, h3, h4]
    · have h3 : ¬ j < i + 1 := by omega
      have h4 : i ≤ j := by omega
      have h5 : ((v.testBit i).toNat).testBit (j - i) = false := Nat.testBit_lt_two_pow (by
        have h6 : (v.testBit i).toNat ≤ 1 := by cases v.testBit i <;> decide
        have := Nat.one_lt_two_pow (n := j - i) (by omega)
        omega)
      simp [h2, h3, h4, h5]
theorem shl_u8 (k : Nat) (hk : k < 8) : (2 : Int) ^ k % (256 : Int) = (((1 <<< k) : Nat) : Int) := by
  match k, hk with
  | 0, _ => rfl
  | 1, _ => rfl
  | 2, _ => rfl
  | 3, _ => rfl
  | 4, _ => rfl
  | 5, _ => rfl
  | 6, _ => rfl
  | 7, _ => rfl
theorem shl_u8_lt (k : Nat) (hk : k < 8) : 1 <<< k < 256 := by
  match k, hk with
  | 0, _ => decide
  | 1, _ => decide
  | 2, _ => decide
  | 3, _ => decide
  | 4, _ => decide
  | 5, _ => decide
  | 6, _ => decide
  | 7, _ => decide
theorem bits_xor_u8 (a b : Nat) (ha : a < 256) (hb : b < 256) : bits .xor .u8 (a : Int) (b : Int) = ((a ^^^ b : Nat) : Int) := by
  have hx : a ^^^ b < 2 ^ 8 := Nat.xor_lt_two_pow (by omega) (by omega)
  have h1 : (BitVec.ofInt 8 (a : Int)).toNat = a := by
    rw [BitVec.ofInt_natCast, BitVec.toNat_ofNat]; exact Nat.mod_eq_of_lt (by omega)
  have h2 : (BitVec.ofInt 8 (b : Int)).toNat = b := by
    rw [BitVec.ofInt_natCast, BitVec.toNat_ofNat]; exact Nat.mod_eq_of_lt (by omega)
  show IntKind.u8.wrap ((BitVec.ofInt 8 (a : Int) ^^^ BitVec.ofInt 8 (b : Int)).toNat : Int) = _
  rw [BitVec.toNat_xor, h1, h2]
  exact IntWalk.u8_in _ (by omega)
theorem xor_lt8 {a b : Nat} (ha : a < 256) (hb : b < 256) : a ^^^ b < 256 := by
  have := @Nat.xor_lt_two_pow a b 8 (by omega) (by omega); simpa using this
/-- One bit of one byte turned. -/
theorem big_flip (c : List Nat) (t : Nat) (ht : t / 8 < c.length) : big (c.set (t / 8) (c.getD (t / 8) 0 ^^^ (1 <<< (t % 8)))) = big c ^^^ (1 <<< t) := by
  rw [big_set c _ _ ht, List.getD_eq_getElem?_getD, List.getElem?_eq_getElem ht]
  congr 1
  rw [Option.getD_some, ← Nat.xor_assoc, Nat.xor_self, Nat.zero_xor, ← Nat.shiftLeft_add]
  congr 1
  omega

/-- A copy of bytes that the law has made: an owned row. -/
theorem clone_own {w w' : World} {E : TypeId} {ao : Option Addr} {n cap : Nat} {l : List Nat} (hl : l.length = n) (h0 : 0 < n)
    (h : n = 0 ∧ ao = none ∧ cap = 0 ∧ w' = w ∨ 0 < n ∧ w'.ownsRow w.heap.size E 1 (.slice ao n cap) n ((List.range n).map (u8c l))) :
    ∃ g, ao = some ⟨g, 0, none⟩ ∧ w.heap.size ≤ g ∧ w'.ownsRow w.heap.size E 1 (.slice (some ⟨g, 0, none⟩) n cap) n (u8v l) := by
  rcases h with ⟨h1, -⟩ | ⟨-, h⟩
  · omega
  · have e : (List.range n).map (u8c l) = u8v l := by
      refine List.ext_getElem (by simp [u8v, hl]) fun i h1 h2 => ?_
      have hi : i < l.length := by simpa [u8v] using h2
      simp [u8v, u8c, hi]
    rw [e] at h
    rcases h.2 with ⟨-, h3⟩ | ⟨g, c2, cur, h3, hb, -⟩
    · omega
    · simp only [Value.slice.injEq] at h3
      obtain ⟨rfl, -, rfl⟩ := h3
      exact ⟨g, rfl, hb, h⟩
set_option maxHeartbeats 2000000 in
set_option maxRecDepth 100000 in
theorem crcTurned_walk (a0 : Option Addr) (len0 cap0 : Nat) (z0 : List Int) (a1 a2 : Int) (w : World) (w0 : IsRow .u8 w a0 len0 cap0 z0) (w1 : (Lit.int .i64 a1).wf = true) (w2 : (Lit.int .u32 a2).wf = true) :
    Calls Try.prog 4 #[.slice a0 len0 cap0, .int .i64 a1, .int .u32 a2] w fun e w' => e = .returned (.bool true) ∧ Below w.heap.size w w' := by
  obtain ⟨b, hl, hb, hc, hn, hlen⟩ := w0.u8
  obtain ⟨ha1, ha2⟩ := bounds_i64 w1
  obtain ⟨hm1, hm2⟩ := bounds_u32 w2
  obtain ⟨mask, rfl⟩ : ∃ m : Nat, a2 = m := ⟨a2.toNat, by omega⟩
  have hmask : mask < 4294967296 := by omega
  have Hl := Lib.hid hl; clear hl
  have Hb := Lib.hid hb; clear hb
  clear hm1 hm2 w2
  by_cases h5 : len0 < 5
  · go_enter Try.func4, Try.ntmps4
    go_wp2_with (go_at_call 10; refine (known_any _).mono ?_; rintro e x1 ⟨rfl, hx1⟩)
    go_ret
    exact ⟨rfl, hx1⟩
  by_cases h300 : 300 < len0
  · go_enter Try.func4, Try.ntmps4
    go_wp2_with (go_at_call 10; refine (known_any _).mono ?_; rintro e x1 ⟨rfl, hx1⟩)
    go_ret
    exact ⟨rfl, hx1⟩
  by_cases hm0 : mask = 0
  · subst hm0
    go_enter Try.func4, Try.ntmps4
    go_wp2_with (go_at_call 10; refine (known_any _).mono ?_; rintro e x1 ⟨rfl, hx1⟩)
    go_ret
    exact ⟨rfl, hx1⟩
  have hmz : ((mask : Int) == 0) = false := by rw [beq_eq_false_iff_ne]; omega
  have k1 : 0 ≤ a1 % (8 * (len0 : Int) - 32) := Int.emod_nonneg _ (by omega)
  have k2 : a1 % (8 * (len0 : Int) - 32) < 8 * (len0 : Int) - 32 := Int.emod_lt_of_pos _ (by omega)
  obtain ⟨k, hk⟩ : ∃ k : Nat, a1 % (8 * (len0 : Int) - 32) = k := ⟨_, (Int.toNat_of_nonneg k1).symm⟩
  have hk8 : k + 32 < 8 * len0 := by omega
  have Hk := Lib.hid hk; clear hk k1 k2
  have Hm0 := Lib.hid hm0; clear hm0
  go_enter Try.func4, Try.ntmps4
  go_wp2_with (go_at_call 10; refine (known_any _).mono ?_; rintro e x1 ⟨rfl, hx1⟩)
  refine (within_any _ _ _ (by omega) (by omega) ha1 ha2).mono ?_; rw [Hk.out]; rintro e x2 ⟨rfl, rfl⟩
  have hc1 := hc.at hx1
  go_wp2_with (at_builtin; refine wpList_append_clone1 sl_u8 rfl (.tmp 30) (.tmp 31) rfl rfl rfl (hc1.alloc (Nat.le_refl _) _) hn (fun _ _ => rfl) (by unfold maxLen; omega) (by omega) ?_)
  intro aoC capC x3 hcC hbC hown
  obtain ⟨g, rfl, hg, hown⟩ := hown.pos (by omega)
  rw [range_u8c b len0 Hl.out] at hown
  have hx3 : Below w.heap.size w x3 := (balloc hx1 _).trans (hbC.mono (by have := hx1.size; omega))
  have hgw : w.heap.size ≤ g := Nat.le_trans (balloc hx1 _).size hg
  have hown := own_base hown (balloc hx1 _).size
  clear hcC
  go_wp2
  go_loopw [9] (fun i wr => ∃ (j : Nat) (cl : List Nat), j ≤ 32 ∧ i = .int .i64 j ∧ Hid (cl.length = len0) ∧ Hid (∀ x ∈ cl, x < 256) ∧ Hid (big cl = big b ^^^ ((mask % 2 ^ j) <<< k)) ∧
      wr.ownsRow w.heap.size 5 1 (.slice (some ⟨g, 0, none⟩) len0 capC) len0 (u8v cl) ∧ Below w.heap.size w wr) (fun i _ => 32 - (intOf i).toNat)
  case atStart => exact ⟨0, b, by omega, rfl, Hl, Hb, Lib.hid (by simp [Nat.mod_one]), hown, hx3⟩
  case round =>
    obtain ⟨j, cl, hj, rfl, hcl, hcl256, hbig, hown, hwr⟩ := hrel
    by_cases hj32 : j < 32
    · have htest := mask_test mask j hmask
      cases hbit : mask.testBit j with
      | false =>
        rw [hbit] at htest
        go_wp2
        go_roundw
        case rel => exact ⟨j + 1, cl, by omega, by go_num, hcl, hcl256, Lib.hid (by rw [hbig.out, mod_succ_xor, hbit]; simp), hown, hwr⟩
        case measure => simp [intOf]; omega
      | true =>
        rw [hbit] at htest
        obtain ⟨old, hold⟩ : ∃ old, Hid (old = cl.getD ((k + j) / 8) 0) := ⟨_, Lib.hid rfl⟩
        have hcell : wr.cell? ⟨g, (k + j) / 8, none⟩ = some (.int .u8 (old : Nat)) := by rw [hold.out]; exact cell_u8 hown _ (by omega)
        have hfr := hown.frozenAt ((k + j) / 8)
        have hin : (k + j) / 8 < len0 := by omega
        go_wp2
        go_roundw
        case rel =>
          have hold8 : old < 256 := by rw [hold.out]; exact getD_lt hcl256.out _
          have hbx : bits .xor .u8 (old : Int) (2 ^ ((k + j) % 8) % 256) = ((old ^^^ (1 <<< ((k + j) % 8)) : Nat) : Int) := by
            rw [shl_u8 ((k + j) % 8) (by omega)]; exact bits_xor_u8 _ _ hold8 (shl_u8_lt _ (by omega))
          refine ⟨j + 1, cl.set ((k + j) / 8) (old ^^^ (1 <<< ((k + j) % 8))), by omega, by go_num, Lib.hid (by rw [List.length_set]; exact hcl.out), Lib.hid (set_lt hcl256.out (xor_lt8 hold8 (shl_u8_lt _ (by omega)))), Lib.hid ?_, stored_u8 hown _ hbx, hwr.setCell (by exact hgw) _⟩
          rw [hold.out, big_flip cl (k + j) (by rw [hcl.out]; exact hin), hbig.out, mod_succ_xor, hbit, Nat.shiftLeft_xor_distrib, Nat.xor_assoc, Bool.toNat_true, ← Nat.shiftLeft_add, Nat.add_comm j k]
        case measure => simp [intOf]; omega
    · obtain rfl : j = 32 := by omega
      have hmod : mask % 2 ^ 32 = mask := Nat.mod_eq_of_lt (by omega)
      have hne : csum b ≠ csum cl := csum_burst b cl k mask (by rw [hcl.out, Hl.out]) (by rw [Hl.out]; omega) hmask Hm0.out (by rw [hbig.out, hmod])
      have hneq : ((csum b : Int) != (csum cl : Int)) = true := by rw [bne_iff_ne]; intro h; exact hne (Int.ofNat.inj h)
      obtain ⟨ao', cap', hv, hcC, -⟩ := own_u8 hown
      simp only [Value.slice.injEq, true_and] at hv
      obtain ⟨rfl, rfl⟩ := hv
      go_wp2_with fail
      refine (sum_one _ b _ Hb.out (by exact one_part rfl Hl.out hlen (hc.at hwr)) _).mono ?_
      rintro e x4 ⟨rfl, rfl⟩
      go_wp2_with fail
      refine (sum_one _ cl _ hcl256.out (by exact one_part (by simp) hcl.out hlen ((hcC.alloc (Nat.le_refl _) _).mono (by simp))) _).mono ?_
      rintro e x5 ⟨rfl, rfl⟩
      go_wp2
      go_ret
      exact ⟨rfl, balloc (balloc hwr _) _⟩
end Go.Proofs.Ytpcfelccanmggaa
