/- Chapter 2's laws: the walks over BitsSizes, BitsWidth, BitsArgs, BitsBack. -/
import Derived.Test.YtkmgbcpleopdgaaRUnpack
import Derived.Test.YtkmgbcpleopdgaaRow
namespace Go.Proofs.Ytkmgbcpleopdgaa
open Go.RowKit
set_option linter.unusedVariables false

theorem packedAny_length (l : List Nat) (wd : Nat) (h : wd ≤ 64) : (packedAny l wd).length = packSize l.length wd := by
  unfold packedAny; rw [if_pos (by omega)]; simp [packed_length]
theorem Fresh.open_below {w w' : World} {E : TypeId} {v : Value} {xs : List Value} (h : Fresh w w' E v xs) : Below w.heap.size w w' := h.2

set_option maxHeartbeats 1000000 in
theorem bitsSizes_walk (a0 a1 : Int) (w : World) (w0 : (Lit.int .i64 a0).wf = true) (w1 : (Lit.int .i64 a1).wf = true) :
    Calls Try.prog 4 #[.int .i64 a0, .int .i64 a1] w fun e w' => e = .returned (.bool true) ∧ Below w.heap.size w w' := by
  obtain ⟨ha1, ha2⟩ := bounds_i64 w0
  obtain ⟨hb1, hb2⟩ := bounds_i64 w1
  have n1 : 0 ≤ a0 % 200 := Int.emod_nonneg _ (by omega)
  have n2 : a0 % 200 < 200 := Int.emod_lt_of_pos _ (by omega)
  have m1 : 0 ≤ a1 % 65 := Int.emod_nonneg _ (by omega)
  have m2 : a1 % 65 < 65 := Int.emod_lt_of_pos _ (by omega)
  obtain ⟨n, hn⟩ : ∃ n : Nat, a0 % 200 = n := ⟨(a0 % 200).toNat, by omega⟩
  obtain ⟨wd, hwd⟩ : ∃ n : Nat, a1 % 65 = n := ⟨(a1 % 65).toNat, by omega⟩
  have hn3 : n < 200 := by omega
  have hwd3 : wd ≤ 64 := by omega
  have Hn := Lib.hid hn; clear hn
  have Hwd := Lib.hid hwd; clear hwd
  obtain ⟨i0, hi, hz0, hz1, hz2⟩ := info_parts Try.infoU64
  go_enter Try.func4, Try.ntmps4
  go_wp2_with (first
    | (go_at_call 11; refine (known_any _).mono ?_; rintro e x1 ⟨rfl, hx1⟩)
    | (go_at_call_of 12 (Value.int IntKind.i64 a0); refine (within_any _ _ _ (by omega) (by omega) ha1 ha2).mono ?_; rw [Hn.out]; rintro e x2 ⟨rfl, rfl⟩)
    | (go_at_call_of 12 (Value.int IntKind.i64 a1); refine (within_any _ _ _ (by omega) (by omega) hb1 hb2).mono ?_; rw [Hwd.out]; rintro e x2 ⟨rfl, rfl⟩)
    | (at_make; refine wpList_make_full _ rfl _ _ 22 rfl x1.heap.size 30 i0 (.int .u64 0) 1 Try.underlying22 hi hz0 hz1 _ _ _ _ n rfl rfl rfl rfl ?b2 ?b3 (Nat.le_refl _) ?_))
  case b2 => rw [hz2]; omega
  case b3 => unfold maxLen; omega
  intro x3 hown hgrow
  have hx3 : Below x1.heap.size x1 x3 := (Below.refl _ _).grown hgrow (Nat.le_refl _) (fun k h => by cases h)
  have hown' : x3.ownsRow x1.heap.size 30 1 (.slice (some ⟨x1.heap.size, 0, none⟩) n n) n (u64v (List.replicate n 0)) := by
    have := hown; rw [madeU64] at this; simpa using this
  obtain ⟨ao, cap, hv, hc, -⟩ := own_u64 hown'
  simp only [Value.slice.injEq, true_and] at hv
  obtain ⟨rfl, rfl⟩ := hv
  clear hown hgrow hown'
  go_wp2_with fail
  refine (pack_any _ _ _ _ (List.replicate n 0) _ (by simp) (by omega) (by intro x hx; rw [List.eq_of_mem_replicate hx]; decide) hc).mono ?_
  rintro e x4 ⟨v, rfl, hf⟩
  obtain ⟨ao, nP, cap, rfl, HnP, -, -, -⟩ := hf.u8
  have hx4 := hf.2
  rw [packedAny_length _ _ hwd3, List.length_replicate] at HnP
  have heq : ((nP : Int) == ((n : Int) * wd + 7) / 8) = true := by rw [HnP.out, packSize_cast]; simp
  have hmul : n * wd ≤ 12800 := by have := Nat.mul_le_mul (show n ≤ 200 by omega) hwd3; omega
  clear hf
  go_wp2
  go_ret
  exact ⟨rfl, bmore (bmore hx1 hx3) hx4⟩

theorem pow_shl (k : Nat) (hk : k < 64) : IntKind.u64.wrap (2 ^ k) = ((2 ^ k : Nat) : Int) := by
  have h : 2 ^ k ≤ 2 ^ 63 := Nat.pow_le_pow_right (by decide) (by omega)
  rw [IntKind.wrap_u64]
  have e : ((2 : Int) ^ k) = ((2 ^ k : Nat) : Int) := by simp
  rw [e]
  have h2 : 2 ^ k < 18446744073709551616 := by omega
  exact Int.emod_eq_of_lt (Int.natCast_nonneg _) (Int.ofNat_lt.2 h2)
theorem pow_shl_pred (k : Nat) (hk : k < 64) : IntKind.u64.wrap (IntKind.u64.wrap (2 ^ k) - 1) = ((2 ^ k - 1 : Nat) : Int) := by
  have h : 2 ^ k ≤ 2 ^ 63 := Nat.pow_le_pow_right (by decide) (by omega)
  have hp := Nat.two_pow_pos k
  rw [pow_shl k hk, IntWalk.u64_in _ (by omega)]
  omega
theorem top_bit (v c : Nat) (hc : c = bitLen v) (h0 : 0 < c) : ((v : Int) / 2 ^ (c - 1) == 1) = true := by
  have hv : 0 < v := by
    rcases Nat.eq_zero_or_pos v with h | h
    · subst h; rw [bitLen_zero] at hc; omega
    · exact h
  have h1 := bitLen_lt v
  have h2 := bitLen_ge v hv
  rw [← hc] at h1 h2
  have h3 : 2 ^ c = 2 * 2 ^ (c - 1) := by rw [← Nat.pow_succ']; congr 1; omega
  have h4 : v / 2 ^ (c - 1) = 1 := by
    apply Nat.div_eq_of_lt_le <;> omega
  have e : ((v : Int) / 2 ^ (c - 1)) = ((v / 2 ^ (c - 1) : Nat) : Int) := by simp
  rw [e, h4]; rfl
theorem no_bit (v c : Nat) (hc : c = bitLen v) : ((v : Int) / 2 ^ c == 0) = true := by
  have h1 := bitLen_lt v
  rw [← hc] at h1
  have e : ((v : Int) / 2 ^ c) = ((v / 2 ^ c : Nat) : Int) := by simp
  rw [e, Nat.div_eq_of_lt h1]; rfl
theorem top64 (v : Nat) (hc : 64 = bitLen v) : ((v : Int) / 9223372036854775808 == 1) = true := top_bit v 64 hc (by decide)
set_option maxHeartbeats 1000000 in
theorem bitsWidth_walk (a0 a1 : Int) (w : World) (w0 : (Lit.int .u64 a0).wf = true) (w1 : (Lit.int .i64 a1).wf = true) :
    Calls Try.prog 6 #[.int .u64 a0, .int .i64 a1] w fun e w' => e = .returned (.bool true) ∧ Below w.heap.size w w' := by
  obtain ⟨ha1, ha2⟩ := bounds_u64 w0
  obtain ⟨hb1, hb2⟩ := bounds_i64 w1
  have m1 : 0 ≤ a1 % 64 := Int.emod_nonneg _ (by omega)
  have m2 : a1 % 64 < 64 := Int.emod_lt_of_pos _ (by omega)
  obtain ⟨v, rfl⟩ : ∃ n : Nat, a0 = n := ⟨a0.toNat, by omega⟩
  obtain ⟨k, hk⟩ : ∃ n : Nat, a1 % 64 = n := ⟨(a1 % 64).toNat, by omega⟩
  have hk3 : k < 64 := by omega
  have hv : v < 18446744073709551616 := by omega
  obtain ⟨c, hc⟩ : ∃ c, Hid (c = bitLen v) := ⟨_, Lib.hid rfl⟩
  have hc64 : c ≤ 64 := by rw [hc.out]; exact bitLen_le64 v hv
  have Hk := Lib.hid hk; clear hk m1 m2
  clear ha1 ha2 w0
  have hp : 2 ^ k < 18446744073709551616 := Nat.lt_of_le_of_lt (Nat.pow_le_pow_right (by decide) (show k ≤ 63 by omega)) (by decide)
  have Hp := Lib.hid hp; clear hp
  have hcs : (c = 64 ∨ c = 0) ∨ (0 < c ∧ c < 64) := by omega
  rcases hcs with (rfl | rfl) | ⟨hc0, hc1⟩
  · have ht := top64 v hc.out
    go_enter Try.func6, Try.ntmps6
    go_wp2_with (first
      | (go_at_call 11; refine (known_any _).mono ?_; rintro e x1 ⟨rfl, hx1⟩)
      | (go_at_call 12; refine (within_any _ _ _ (by omega) (by omega) hb1 hb2).mono ?_; rw [Hk.out]; rintro e x2 ⟨rfl, rfl⟩)
      | (go_at_call_of 15 (Value.int IntKind.u64 (v : Nat)); refine (width_n v _ hv).mono ?_; rw [← hc.out]; rintro e x2 ⟨rfl, rfl⟩))
    rw [pow_shl k hk3]
    refine (width_n (2 ^ k) _ Hp.out).mono ?_
    rw [bitLen_pow]; rintro e x2 ⟨rfl, rfl⟩
    go_wp2_with fail
    rw [pow_shl_pred k hk3]
    refine (width_n (2 ^ k - 1) _ (by have := Hp.out; omega)).mono ?_
    rw [bitLen_pred]; rintro e x2 ⟨rfl, rfl⟩
    go_wp2
    go_ret
    exact ⟨rfl, hx1⟩
  · obtain rfl : v = 0 := by
      have h1 := bitLen_lt v
      rw [← hc.out] at h1; omega
    go_enter Try.func6, Try.ntmps6
    go_wp2_with (first
      | (go_at_call 11; refine (known_any _).mono ?_; rintro e x1 ⟨rfl, hx1⟩)
      | (go_at_call 12; refine (within_any _ _ _ (by omega) (by omega) hb1 hb2).mono ?_; rw [Hk.out]; rintro e x2 ⟨rfl, rfl⟩)
      | (go_at_call_of 15 (Value.int IntKind.u64 0); refine (width_n 0 _ hv).mono ?_; rw [← hc.out]; rintro e x2 ⟨rfl, rfl⟩))
    rw [pow_shl k hk3]
    refine (width_n (2 ^ k) _ Hp.out).mono ?_
    rw [bitLen_pow]; rintro e x2 ⟨rfl, rfl⟩
    go_wp2_with fail
    rw [pow_shl_pred k hk3]
    refine (width_n (2 ^ k - 1) _ (by have := Hp.out; omega)).mono ?_
    rw [bitLen_pred]; rintro e x2 ⟨rfl, rfl⟩
    go_wp2
    go_ret
    exact ⟨rfl, hx1⟩
  · have ht := top_bit v c hc.out hc0
    have hn := no_bit v c hc.out
    have h64 : ((c : Int) == 64) = false := by rw [beq_eq_false_iff_ne]; omega
    have h00 : ((c : Int) == 0) = false := by rw [beq_eq_false_iff_ne]; omega
    go_enter Try.func6, Try.ntmps6
    go_wp2_with (first
      | (go_at_call 11; refine (known_any _).mono ?_; rintro e x1 ⟨rfl, hx1⟩)
      | (go_at_call 12; refine (within_any _ _ _ (by omega) (by omega) hb1 hb2).mono ?_; rw [Hk.out]; rintro e x2 ⟨rfl, rfl⟩)
      | (go_at_call_of 15 (Value.int IntKind.u64 (v : Nat)); refine (width_n v _ hv).mono ?_; rw [← hc.out]; rintro e x2 ⟨rfl, rfl⟩))
    rw [pow_shl k hk3]
    refine (width_n (2 ^ k) _ Hp.out).mono ?_
    rw [bitLen_pow]; rintro e x2 ⟨rfl, rfl⟩
    go_wp2_with fail
    rw [pow_shl_pred k hk3]
    refine (width_n (2 ^ k - 1) _ (by have := Hp.out; omega)).mono ?_
    rw [bitLen_pred]; rintro e x2 ⟨rfl, rfl⟩
    go_wp2
    go_ret
    exact ⟨rfl, hx1⟩

set_option maxHeartbeats 1000000 in
theorem bitsArgs_walk (a0 : Option Addr) (len0 cap0 : Nat) (z0 : List Int) (a1 a2 : Int) (w : World) (w0 : IsRow .u8 w a0 len0 cap0 z0) (w1 : (Lit.int .i64 a1).wf = true) (w2 : (Lit.int .i64 a2).wf = true) :
    Calls Try.prog 9 #[.slice a0 len0 cap0, .int .i64 a1, .int .i64 a2] w fun e w' => e = .returned (.bool true) ∧ Below w.heap.size w w' := by
  obtain ⟨b, hl, hb, hc, hn, hlen⟩ := w0.u8
  obtain ⟨ha1, ha2⟩ := bounds_i64 w1
  obtain ⟨hb1, hb2⟩ := bounds_i64 w2
  have m1 : 0 ≤ a1 % 99 := Int.emod_nonneg _ (by omega)
  have m2 : a1 % 99 < 99 := Int.emod_lt_of_pos _ (by omega)
  have n1 : 0 ≤ a2 % 65 := Int.emod_nonneg _ (by omega)
  have n2 : a2 % 65 < 65 := Int.emod_lt_of_pos _ (by omega)
  have q1 : 0 ≤ a2 % 99 := Int.emod_nonneg _ (by omega)
  have q2 : a2 % 99 < 99 := Int.emod_lt_of_pos _ (by omega)
  have Hl := Lib.hid hl; clear hl
  have Hb := Lib.hid hb; clear hb
  by_cases h50 : 50 < len0
  · go_enter Try.func9, Try.ntmps9
    go_wp2_with (go_at_call 11; refine (known_any _).mono ?_; rintro e x1 ⟨rfl, hx1⟩)
    go_ret
    exact ⟨rfl, hx1⟩
  go_enter Try.func9, Try.ntmps9
  go_wp2_with (go_at_call 11; refine (known_any _).mono ?_; rintro e x1 ⟨rfl, hx1⟩)
  refine (within_any _ _ _ (by omega) (by omega) ha1 ha2).mono ?_; rintro e x2 ⟨rfl, rfl⟩
  go_wp2_with fail
  refine (within_any _ _ _ (by omega) (by omega) hb1 hb2).mono ?_; rintro e x2 ⟨rfl, rfl⟩
  go_wp2_with fail
  refine (unpack_any _ _ _ _ _ b _ Hl.out Hb.out hlen (hc.at hx1)).mono ?_; rw [spec_arg _ _ _ (by omega)]; rintro e x2 ⟨v, rfl, hf⟩
  have hx2 := bmore hx1 hf.2; clear hf
  go_wp2_with fail
  refine (within_any _ _ _ (by omega) (by omega) ha1 ha2).mono ?_; rintro e x3 ⟨rfl, rfl⟩
  go_wp2_with fail
  refine (within_any _ _ _ (by omega) (by omega) hb1 hb2).mono ?_; rintro e x3 ⟨rfl, rfl⟩
  go_wp2_with fail
  refine (unpack_any _ _ _ _ _ b _ Hl.out Hb.out hlen (hc.at hx2)).mono ?_; rw [spec_arg _ _ _ (by omega)]; rintro e x3 ⟨v, rfl, hf⟩
  have hx3 := bmore hx2 hf.2; clear hf
  go_wp2_with fail
  refine (within_any _ _ _ (by omega) (by omega) ha1 ha2).mono ?_; rintro e x4 ⟨rfl, rfl⟩
  go_wp2_with fail
  refine (within_any _ _ _ (by omega) (by omega) hb1 hb2).mono ?_; rintro e x4 ⟨rfl, rfl⟩
  go_wp2_with fail
  refine (unpack_any _ _ _ _ _ b _ Hl.out Hb.out hlen (hc.at hx3)).mono ?_; rw [spec_arg _ _ _ (by omega)]; rintro e x4 ⟨v, rfl, hf⟩
  have hx4 := bmore hx3 hf.2; clear hf
  go_wp2_with fail
  refine (within_any _ _ _ (by omega) (by omega) ha1 ha2).mono ?_; rintro e x5 ⟨rfl, rfl⟩
  go_wp2_with fail
  refine (within_any _ _ _ (by omega) (by omega) hb1 hb2).mono ?_; rintro e x5 ⟨rfl, rfl⟩
  go_wp2_with fail
  refine (unpack_any _ _ _ _ _ b _ Hl.out Hb.out hlen (hc.at hx4)).mono ?_; rw [spec_arg _ _ _ (by omega)]; rintro e x5 ⟨v, rfl, hf⟩
  have hx5 := bmore hx4 hf.2; clear hf
  go_wp2_with fail
  refine (within_any _ _ _ (by omega) (by omega) hb1 hb2).mono ?_; rintro e x6 ⟨rfl, rfl⟩
  go_wp2_with fail
  refine (pack_out _ _ _ _ _ (by omega)).mono ?_; rintro e x7 ⟨v, rfl, hf⟩
  have hx7 := bmore (balloc hx5 _) hf.2
  obtain ⟨ao, nP, cap, rfl, HnP, -, -, -⟩ := hf.u8
  obtain rfl : nP = 0 := HnP.out
  clear hf
  go_wp2
  go_ret
  exact ⟨rfl, hx7⟩

/-- The lowest bits, as the law reckons them. -/
theorem low_bits (v wd : Nat) (hv : v < 18446744073709551616) (hw : wd < 64) :
    bits .and .u64 (v : Int) (IntKind.u64.wrap (IntKind.u64.wrap (2 ^ wd) - 1)) = ((v % 2 ^ wd : Nat) : Int) := by
  rw [pow_shl_pred wd hw]
  have h : 2 ^ wd ≤ 2 ^ 63 := Nat.pow_le_pow_right (by decide) (by omega)
  rw [bits_and_u64_nat v (2 ^ wd - 1) hv (by omega), Nat.and_two_pow_sub_one_eq_mod]
theorem bitsBack_spec (l : List Nat) (wd n : Nat) (hl : l.length = n) (hn : n ≤ 100) (hw : wd ≤ 64) : unpackSpec (packedAny l wd) n wd = (l.map (· % 2 ^ wd), 0) := by
  unfold packedAny
  rw [if_pos (by omega)]
  subst hl
  simpa using unpackSpec_packed l wd (by omega) hw

set_option maxHeartbeats 2000000 in
theorem bitsBack_walk (a0 : Option Addr) (len0 cap0 : Nat) (z0 : List Int) (a1 : Int) (w : World) (w0 : IsRow .u64 w a0 len0 cap0 z0) (w1 : (Lit.int .i64 a1).wf = true) :
    Calls Try.prog 8 #[.slice a0 len0 cap0, .int .i64 a1] w fun e w' => e = .returned (.bool true) ∧ Below w.heap.size w w' := by
  obtain ⟨l, hl, hb, hc, hn, hlen⟩ := w0.u64
  obtain ⟨ha1, ha2⟩ := bounds_i64 w1
  have m1 : 0 ≤ a1 % 65 := Int.emod_nonneg _ (by omega)
  have m2 : a1 % 65 < 65 := Int.emod_lt_of_pos _ (by omega)
  obtain ⟨wd, hwd⟩ : ∃ n : Nat, a1 % 65 = n := ⟨(a1 % 65).toNat, by omega⟩
  have hwd3 : wd ≤ 64 := by omega
  have Hwd := Lib.hid hwd; clear hwd m1 m2
  have Hl := Lib.hid hl; clear hl
  have Hb := Lib.hid hb; clear hb
  by_cases h100 : 100 < len0
  · go_enter Try.func8, Try.ntmps8
    go_wp2_with (go_at_call 11; refine (known_any _).mono ?_; rintro e x1 ⟨rfl, hx1⟩)
    go_ret
    exact ⟨rfl, hx1⟩
  go_enter Try.func8, Try.ntmps8
  go_wp2_with (go_at_call 11; refine (known_any _).mono ?_; rintro e x1 ⟨rfl, hx1⟩)
  refine (within_any _ _ _ (by omega) (by omega) ha1 ha2).mono ?_; rw [Hwd.out]; rintro e x2 ⟨rfl, rfl⟩
  go_wp2_with fail
  refine (pack_any _ _ _ _ l _ Hl.out (by omega) Hb.out (hc.at hx1)).mono ?_; rintro e x2 ⟨v, rfl, hf⟩
  have hx2 := bmore hx1 hf.2
  obtain ⟨aoP, nP, capP, rfl, HnP, hcP, hnP, -⟩ := hf.u8
  have hltP : Hid (∀ x ∈ packedAny l (wd : Int), x < 256) := Lib.hid (by
    unfold packedAny; split
    · exact packed_lt _ _
    · simp)
  have hnP2 : nP ≤ 9223372036854775807 := by
    have h := HnP.out
    rw [packedAny_length _ _ hwd3, Hl.out] at h
    have := @packSize_le len0 wd (by omega) hwd3
    omega
  clear hf
  go_wp2_with fail
  refine (unpack_any _ _ _ _ _ _ _ HnP.out.symm hltP.out hnP2 hcP).mono ?_
  rw [bitsBack_spec l wd len0 Hl.out (by omega) hwd3]; rintro e x3 ⟨v, rfl, hf⟩
  have hx3 := bmore hx2 hf.2
  obtain ⟨aoU, nU, capU, rfl, HnU, hcU, hnU, -⟩ := hf.u64
  obtain rfl : nU = len0 := by have := HnU.out; rw [List.length_map, Hl.out] at this; exact this
  clear hf hcP hnP
  go_wp2
  go_loop [8] (fun i => ∃ k : Nat, k ≤ nU ∧ i = .int .i64 k) (fun i => nU - (intOf i).toNat)
  case atStart => exact ⟨0, Nat.zero_le _, rfl⟩
  case round =>
    obtain ⟨k, hk, rfl⟩ := hrel
    by_cases hkn : k < nU
    · obtain ⟨b1, o1, rfl, hb1, hc1⟩ := hc k hkn
      obtain ⟨b2, o2, rfl, hb2, hc2⟩ := hcU k hkn
      have hc1' := (hx3.cell (by exact hb1)).trans hc1
      obtain ⟨v, hv⟩ : ∃ v, v = l.getD k 0 := ⟨_, rfl⟩
      have hv64 : v < 18446744073709551616 := by
        rw [hv, List.getD_eq_getElem?_getD, List.getElem?_eq_getElem (by rw [Hl.out]; exact hkn)]
        exact Hb.out _ (List.getElem_mem _)
      have hmod : (l.map (· % 2 ^ wd)).getD k 0 = v % 2 ^ wd := by
        rw [hv]; simp [List.getD_eq_getElem?_getD, List.getElem?_map, List.getElem?_eq_getElem (show k < l.length by rw [Hl.out]; exact hkn)]
      rw [u64c, ← hv] at hc1'
      rw [u64c, hmod] at hc2
      obtain ⟨y, hy⟩ : ∃ y, y = v % 2 ^ wd := ⟨_, rfl⟩
      rw [← hy] at hc2
      have hcs : wd < 64 ∨ wd = 64 := by omega
      clear hc hcU hc1 hmod hv
      rcases hcs with hwd4 | rfl
      · have hlow := low_bits v wd hv64 hwd4
        rw [← hy] at hlow
        clear hy
        go_wp2
        go_round
        case rel => exact ⟨k + 1, by omega, by go_num⟩
        case measure => simp [intOf]; omega
      · obtain rfl : y = v := by rw [hy]; exact Nat.mod_eq_of_lt hv64
        clear hy
        go_wp2
        go_round
        case rel => exact ⟨k + 1, by omega, by go_num⟩
        case measure => simp [intOf]; omega
    · go_wp2
      go_ret
      exact ⟨rfl, hx3⟩
end Go.Proofs.Ytkmgbcpleopdgaa
