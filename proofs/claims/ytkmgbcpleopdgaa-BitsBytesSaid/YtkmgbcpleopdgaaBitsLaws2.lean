/- Chapter 2's laws: the walk over BitsPlaces. -/
import Derived.Test.YtkmgbcpleopdgaaBitsLaws
import Derived.Test.YtkmgbcpleopdgaaLin
namespace Go.Proofs.Ytkmgbcpleopdgaa
open Go.RowKit
set_option linter.unusedVariables false

theorem packedAny_eq (l : List Nat) (wd : Nat) (h : wd ≤ 64) : packedAny l wd = packed l wd := by
  unfold packedAny; rw [if_pos (by omega)]; simp
theorem bits_and_i64_one (x m : Nat) (hx : x < 256) : bits .and .i64 ((x : Int) / 2 ^ m) 1 = ((x.testBit m).toNat : Nat) := by
  have h : x >>> m < 256 := Nat.lt_of_le_of_lt (Nat.shiftRight_le x m) hx
  have e : ((x : Int) / 2 ^ m) = ((x >>> m : Nat) : Int) := by rw [Nat.shiftRight_eq_div_pow]; simp
  rw [e]
  have := (bits_nat .i64 63 (by decide) (fun n h0 h1 => IntWalk.i64_in n (by omega)) (x >>> m) 1 (by omega) (by decide)).1
  exact this.trans (by rw [and_one_testBit])

theorem shr_small (x m : Nat) (hx : x < 256) : wrap64 ((x : Int) / 2 ^ m) = (x : Int) / 2 ^ m := by
  have h : x >>> m < 256 := Nat.lt_of_le_of_lt (Nat.shiftRight_le x _) hx
  have e : ((x : Int) / 2 ^ m) = ((x >>> m : Nat) : Int) := by rw [Nat.shiftRight_eq_div_pow]; simp
  rw [e]
  generalize x >>> m = y at h
  exact IntWalk.wrap64_in _ (by omega)
set_option maxHeartbeats 2000000 in
set_option maxRecDepth 100000 in
theorem bitsPlaces_walk (a0 : Option Addr) (len0 cap0 : Nat) (z0 : List Int) (a1 : Int) (w : World) (w0 : IsRow .u64 w a0 len0 cap0 z0) (w1 : (Lit.int .i64 a1).wf = true) :
    Calls Try.prog 5 #[.slice a0 len0 cap0, .int .i64 a1] w fun e w' => e = .returned (.bool true) ∧ Below w.heap.size w w' := by
  obtain ⟨l, hl, hb, hc, hn, hlen⟩ := w0.u64
  obtain ⟨ha1, ha2⟩ := bounds_i64 w1
  have m1 : 0 ≤ a1 % 65 := Int.emod_nonneg _ (by omega)
  have m2 : a1 % 65 < 65 := Int.emod_lt_of_pos _ (by omega)
  obtain ⟨wd, hwd⟩ : ∃ n : Nat, a1 % 65 = n := ⟨(a1 % 65).toNat, by omega⟩
  have hwd3 : wd ≤ 64 := by omega
  have Hwd := Lib.hid hwd; clear hwd m1 m2
  have Hl := Lib.hid hl; clear hl
  have Hb := Lib.hid hb; clear hb
  by_cases h40 : 40 < len0
  · go_enter Try.func5, Try.ntmps5
    go_wp2_with (go_at_call 11; refine (known_any _).mono ?_; rintro e x1 ⟨rfl, hx1⟩)
    go_ret
    exact ⟨rfl, hx1⟩
  go_enter Try.func5, Try.ntmps5
  go_wp2_with (go_at_call 11; refine (known_any _).mono ?_; rintro e x1 ⟨rfl, hx1⟩)
  refine (within_any _ _ _ (by omega) (by omega) ha1 ha2).mono ?_; rw [Hwd.out]; rintro e x2 ⟨rfl, rfl⟩
  go_wp2_with fail
  refine (pack_any _ _ _ _ l _ Hl.out (by omega) Hb.out (hc.at hx1)).mono ?_; rintro e x2 ⟨v, rfl, hf⟩
  have hx2 := bmore hx1 hf.2
  rw [packedAny_eq l wd hwd3] at hf
  obtain ⟨aoP, N, capP, rfl, HnP, hcP, hnP, -⟩ := hf.u8
  have hNs : Hid (N = packSize len0 wd) := Lib.hid (by rw [HnP.out, packed_length, Hl.out])
  have hN : N ≤ 400 := by
    rw [hNs.out]; have := Nat.mul_le_mul (show len0 ≤ 40 by omega) hwd3
    unfold packSize; omega
  obtain ⟨F, hF⟩ : ∃ F, Hid (F = len0 * wd) := ⟨_, Lib.hid rfl⟩
  have hF8 : F ≤ 8 * N := by rw [hNs.out, hF.out]; unfold packSize; omega
  have hbit : Hid (∀ p, p < F → ((packed l wd).getD (p / 8) 0).testBit (p % 8) = bitAt l wd p) := Lib.hid (fun p hp => bitOf_packed l wd p (by rw [Hl.out, ← hF.out]; exact hp))
  have hrest : Hid (∀ p, F ≤ p → p < 8 * N → ((packed l wd).getD (p / 8) 0).testBit (p % 8) = false) := Lib.hid (fun p h1 h2 => by
    have ht := tailClear_packed l wd
    rw [tailClear_iff] at ht
    exact ht p (by rw [Hl.out, ← hF.out]; exact h1) (by rw [packed_length, Hl.out, ← hNs.out]; exact h2))
  have h256 : Hid (∀ p, (packed l wd).getD p 0 < 256) := Lib.hid (fun p => packTo_getD_lt _ _ _ _)
  clear hf
  go_wp2
  go_loopw [7, 8] (fun at_ i wr => ∃ k t : Nat, k ≤ len0 ∧ Hid (t = k * wd) ∧ i = .int .i64 k ∧ at_ = .int .i64 t ∧ Below x2.heap.size x2 wr) (fun _ i _ => len0 - (intOf i).toNat)
  case atStart => exact ⟨0, 0, by omega, Lib.hid (by omega), rfl, rfl, Below.refl _ _⟩
  case round =>
    obtain ⟨k, t, hk, ht, rfl, rfl, hwr⟩ := hrel
    by_cases hkn : k < len0
    · go_wp2
      go_loopw [7, 9] (fun at_ j wr => ∃ m t : Nat, m ≤ wd ∧ Hid (t = k * wd + m) ∧ j = .int .i64 m ∧ at_ = .int .i64 t ∧ Below x2.heap.size x2 wr) (fun _ j _ => wd - (intOf j).toNat)
      case atStart => exact ⟨0, t, by omega, Lib.hid (by rw [ht.out]; omega), rfl, rfl, hwr⟩
      case round =>
        clear ht hwr
        obtain ⟨m, t, hm, ht, rfl, rfl, hwr⟩ := hrel
        by_cases hmw : m < wd
        · have htF : t < F := by
            rw [ht.out, hF.out]
            have : (k + 1) * wd ≤ len0 * wd := Nat.mul_le_mul_right _ hkn
            rw [Nat.add_mul] at this; omega
          obtain ⟨b1, o1, rfl, hb1, hc1⟩ := hc k hkn
          obtain ⟨b2, o2, rfl, hb2, hc2⟩ := hcP (t / 8) (by omega)
          have hc1' := ((bmore hx2 hwr).cell (by exact hb1)).trans hc1
          have hc2' := (hwr.cell (by exact hb2)).trans hc2
          obtain ⟨v, hv⟩ : ∃ v, v = l.getD k 0 := ⟨_, rfl⟩
          obtain ⟨x, hx⟩ : ∃ x, x = (packed l wd).getD (t / 8) 0 := ⟨_, rfl⟩
          have hx256 : x < 256 := by rw [hx]; exact h256.out _
          have hv64 : v < 18446744073709551616 := by
            rw [hv, List.getD_eq_getElem?_getD, List.getElem?_eq_getElem (by rw [Hl.out]; exact hkn)]
            exact Hb.out _ (List.getElem_mem _)
          have hsame : x.testBit (t % 8) = v.testBit m := by
            rw [hx, hbit.out t htF, ht.out, bitAt_at l wd k m hmw, hv]
          have f1 := bits_and_i64_one x (t % 8) hx256
          have f2 := bits_and_one_div_u64 v m hv64
          rw [hsame] at f1
          rw [u64c, ← hv] at hc1'
          rw [u8c, ← hx] at hc2'
          obtain ⟨β, hβ⟩ : ∃ β, β = (v.testBit m).toNat := ⟨_, rfl⟩
          rw [← hβ] at f1 f2
          have hβ2 : β ≤ 1 := by rw [hβ]; exact toNat_le _
          have g1 : (N : Int) ≤ (t : Int) / 8 → False := by omega
          have g2 : t / 8 < N := by omega
          clear hc hc1 hcP hc2 hv hx hsame hβ
          go_wp2
          have e1 : IntKind.i64.wrap ((t : Int) / 8) = t / 8 := IntWalk.i64_in _ (by omega)
          have e2 : (0 : Int) ≤ (t : Int) / 8 := by omega
          have e3 : ((t : Int) / 8).toNat = t / 8 := by omega
          have e4 : ((t : Int) / 8) < (N : Int) := by omega
          have e5 : (t : Int).tmod 8 = t % 8 := IntWalk.rem_in _ _ (by omega)
          have e6 : (0 : Int) ≤ (t : Int) % 8 := by omega
          have e7 : (t : Int) % 8 ≤ 64 := by omega
          have e8 : decide ((N : Int) ≤ (t : Int) / 8) = false := by rw [decide_eq_false_iff_not]; omega
          have e9 : (k : Int) < (len0 : Int) := by omega
          clear g1
          have e10 := shr_small x (t % 8) hx256
          go_quiet (fail)
          clear e1 e2 e3 e4 e5 e6 e7 e8 e9 e10 f1 f2
          go_wp2
          go_roundw
          case rel => exact ⟨m + 1, t + 1, by omega, Lib.hid (by rw [ht.out]; omega), by go_num, by go_num, below_drewN hwr _⟩
          case measure => simp [intOf]; omega
        · go_wp2
          go_roundw
          case rel => exact ⟨k + 1, t, by omega, Lib.hid (by rw [ht.out, Nat.add_mul]; omega), by go_num, rfl, hwr⟩
          case measure => simp [intOf]; omega
    · obtain rfl : k = len0 := by omega
      have htF : t = F := by rw [ht.out, hF.out]
      clear ht
      subst htF
      go_wp2
      go_loop [7] (fun at_ => ∃ p : Nat, t ≤ p ∧ p ≤ 8 * N ∧ at_ = .int .i64 p) (fun at_ => 8 * N - (intOf at_).toNat)
      case atStart => exact ⟨t, Nat.le_refl _, hF8, rfl⟩
      case round =>
        obtain ⟨p, hp1, hp2, rfl⟩ := hrel
        by_cases hp : p < 8 * N
        · obtain ⟨b2, o2, rfl, hb2, hc2⟩ := hcP (p / 8) (by omega)
          have hc2' := (hwr.cell (by exact hb2)).trans hc2
          obtain ⟨x, hx⟩ : ∃ x, x = (packed l wd).getD (p / 8) 0 := ⟨_, rfl⟩
          have hx256 : x < 256 := by rw [hx]; exact h256.out _
          have hz : x.testBit (p % 8) = false := by rw [hx]; exact hrest.out p hp1 hp
          have f1 := div_and x (p % 8) hx256
          rw [hz] at f1
          rw [u8c, ← hx] at hc2'
          clear hc2 hcP hx hz
          go_wp2
          go_round
          case rel => exact ⟨p + 1, by omega, by omega, by go_num⟩
          case measure => simp [intOf]; omega
        · go_wp2
          go_ret
          exact ⟨rfl, bmore hx2 hwr⟩
end Go.Proofs.Ytkmgbcpleopdgaa
