/- Chapter 2's laws: the walk over BitsBytes. -/
import Derived.Test.YtkmgbcpleopdgaaBitsLaws2
namespace Go.Proofs.Ytkmgbcpleopdgaa
open Go.RowKit
set_option linter.unusedVariables false

theorem bitOf_byte (b : List Nat) (i k : Nat) (hk : k < 8) : bitOf b (8 * i + k) = (b.getD i 0).testBit k := by
  unfold bitOf
  rw [show (8 * i + k) / 8 = i by omega, show (8 * i + k) % 8 = k by omega]
theorem unpackSpec_bytes (b : List Nat) (hb : ∀ x ∈ b, x < 256) (hl : b.length ≤ 60) : unpackSpec b b.length 8 = (b, 0) := by
  have h := spec_ok b b.length 8 (by omega) (by omega) (by unfold packSize; omega) (by rw [tailClear_iff]; intro p h1 h2; omega)
  rw [show ((8 : Nat) : Int) = 8 from rfl] at h
  rw [h]
  congr 1
  refine List.ext_getElem (by simp [unpacked]) fun i h1 h2 => ?_
  simp only [unpacked, List.getElem_map, List.getElem_range]
  have hx : b[i] < 256 := hb _ (List.getElem_mem _)
  have e : numOf (fun k => bitOf b (i * 8 + k)) 8 = numOf b[i].testBit 8 := numOf_congr (fun m hm => by
    rw [Nat.mul_comm i 8, bitOf_byte b i m hm, List.getD_eq_getElem?_getD, List.getElem?_eq_getElem h2]; rfl)
  rw [e, numOf_self]; exact Nat.mod_eq_of_lt hx
theorem unpackSpec_bits (b : List Nat) (hl : b.length ≤ 60) : unpackSpec b ((8 * b.length : Nat) : Int) 1 = ((List.range (8 * b.length)).map (fun p => (bitOf b p).toNat), 0) := by
  have h := spec_ok b (8 * b.length) 1 (by omega) (by omega) (by unfold packSize; omega) (by rw [tailClear_iff]; intro p h1 h2; omega)
  rw [show ((1 : Nat) : Int) = 1 from rfl] at h
  rw [h]
  congr 1
  unfold unpacked
  refine List.map_congr_left fun p _ => ?_
  simp [numOf]
theorem shr_step (v m : Nat) : v >>> m = 2 * (v >>> (m + 1)) + (v.testBit m).toNat := by
  rw [Nat.shiftRight_succ, Nat.toNat_testBit, ← Nat.shiftRight_eq_div_pow]
  omega

set_option maxHeartbeats 2000000 in
set_option maxRecDepth 100000 in
theorem bitsBytes_walk (a0 : Option Addr) (len0 cap0 : Nat) (z0 : List Int) (w : World) (w0 : IsRow .u8 w a0 len0 cap0 z0) :
    Calls Try.prog 10 #[.slice a0 len0 cap0] w fun e w' => e = .returned (.bool true) ∧ Below w.heap.size w w' := by
  obtain ⟨b, hl, hb, hc, hn, hlen⟩ := w0.u8
  have Hl := Lib.hid hl; clear hl
  have Hb := Lib.hid hb; clear hb
  by_cases h60 : 60 < len0
  · go_enter Try.func10, Try.ntmps10
    go_wp2_with (go_at_call 11; refine (known_any _).mono ?_; rintro e x1 ⟨rfl, hx1⟩)
    go_ret
    exact ⟨rfl, hx1⟩
  have hs1 : Hid (unpackSpec b (len0 : Int) 8 = (b, 0)) := Lib.hid (by have := unpackSpec_bytes b Hb.out (by rw [Hl.out]; omega); rwa [Hl.out] at this)
  have hs2 : Hid (unpackSpec b (8 * (len0 : Int)) 1 = ((List.range (8 * len0)).map (fun p => (bitOf b p).toNat), 0)) := Lib.hid (by
    have := unpackSpec_bits b (by rw [Hl.out]; omega); rw [Hl.out] at this; simpa using this)
  go_enter Try.func10, Try.ntmps10
  go_wp2_with (go_at_call 11; refine (known_any _).mono ?_; rintro e x1 ⟨rfl, hx1⟩)
  refine (unpack_any _ _ _ _ _ b _ Hl.out Hb.out hlen (hc.at hx1)).mono ?_; rw [hs1.out]; rintro e x2 ⟨v, rfl, hf⟩
  have hx2 := bmore hx1 hf.2
  obtain ⟨aoX, nX, capX, rfl, HnX, hcX, -, -⟩ := hf.u64
  obtain rfl : nX = len0 := by have := HnX.out; rw [Hl.out] at this; exact this
  clear hf
  go_wp2_with fail
  refine (unpack_any _ _ _ _ _ b _ Hl.out Hb.out hlen (hc.at hx2)).mono ?_; rw [hs2.out]; rintro e x3 ⟨v, rfl, hf⟩
  have hx3 := bmore hx2 hf.2
  have hcX3 := (show Grows x2 x3 from hf.2).cells hcX
  obtain ⟨aoY, nY, capY, rfl, HnY, hcY, -, -⟩ := hf.u64
  obtain rfl : nY = 8 * nX := by have := HnY.out; simpa using this
  clear hf hcX
  go_wp2
  go_loopw [7] (fun i wr => ∃ k : Nat, k ≤ nX ∧ i = .int .i64 k ∧ Below x3.heap.size x3 wr) (fun i _ => nX - (intOf i).toNat)
  case atStart => exact ⟨0, Nat.zero_le _, rfl, Below.refl _ _⟩
  case round =>
    obtain ⟨k, hk, rfl, hwr⟩ := hrel
    by_cases hkn : k < nX
    · obtain ⟨v, hv⟩ : ∃ v, v = b.getD k 0 := ⟨_, rfl⟩
      have hv256 : v < 256 := by
        rw [hv, List.getD_eq_getElem?_getD, List.getElem?_eq_getElem (by rw [Hl.out]; exact hkn)]
        exact Hb.out _ (List.getElem_mem _)
      obtain ⟨b0, o0, rfl, hb0, hc0⟩ := hc k hkn
      obtain ⟨b1, o1, rfl, hb1, hc1⟩ := hcX3 k hkn
      have hc0' := ((bmore hx3 hwr).cell (by exact hb0)).trans hc0
      have hc1' := (hwr.cell (by exact hb1)).trans hc1
      rw [u8c, ← hv] at hc0'
      rw [u64c, ← hv] at hc1'
      have hY : Hid (∀ m, m < 8 → ∃ b2 o2, aoY = some ⟨b2, o2, none⟩ ∧ b2 < x3.heap.size ∧ wr.cell? ⟨b2, o2 + (8 * k + m), none⟩ = some (.int .u64 ((v.testBit m).toNat : Nat))) := Lib.hid (by
        intro m hm
        obtain ⟨b2, o2, e, hlt, h2⟩ := hcY (8 * k + m) (by omega)
        refine ⟨b2, o2, e, hlt, (hwr.cell (by exact hlt)).trans ?_⟩
        rw [h2, u64c, List.getD_eq_getElem?_getD, List.getElem?_map, List.getElem?_range (by omega)]
        rw [hv, ← bitOf_byte b k m hm]; rfl)
      clear hc hcX3 hc0 hc1 hcY hv
      go_wp2
      go_loop [8, 9] (fun p j => ∃ (m : Nat) (kz : Int), m ≤ 8 ∧ Hid (kz = (m : Int) - 1) ∧ j = .int .i64 kz ∧ p = .int .u64 ((v >>> m : Nat) : Int)) (fun _ j => (intOf j + 1).toNat)
      case atStart => exact ⟨8, 7, by omega, Lib.hid (by decide), rfl, by rw [Nat.shiftRight_eq_div_pow, Nat.div_eq_of_lt (by omega)]; rfl⟩
      case round =>
        obtain ⟨m, kz, hm, hkz, rfl, rfl⟩ := hrel
        rcases m with _ | m
        · obtain rfl : kz = -1 := by have := hkz.out; omega
          rw [Nat.shiftRight_zero]
          go_wp2
          have e1 : (k : Int) < (nX : Int) := by omega
          have e2 : (0 : Int) ≤ (k : Int) := by omega
          go_quiet (fail)
          go_wp2
          go_roundw
          case rel => exact ⟨k + 1, by omega, by go_num, below_drewN hwr _⟩
          case measure => simp [intOf]; omega
        · obtain rfl : kz = (m : Nat) := by have := hkz.out; omega
          obtain ⟨b2, o2, rfl, hb2, hc2⟩ := hY.out m (by omega)
          obtain ⟨p, hp⟩ : ∃ p, p = v >>> (m + 1) := ⟨_, rfl⟩
          obtain ⟨β, hβ⟩ : ∃ β, β = (v.testBit m).toNat := ⟨_, rfl⟩
          have hst : Hid (v >>> m = 2 * p + β) := Lib.hid (by rw [hp, hβ]; exact shr_step v m)
          have hp2 : p < 256 := by rw [hp]; exact Nat.lt_of_le_of_lt (Nat.shiftRight_le v _) hv256
          have hβ2 : β ≤ 1 := by rw [hβ]; exact toNat_le _
          rw [← hβ] at hc2
          rw [← hp]
          clear hp hβ
          go_wp2
          go_round
          case rel => exact ⟨m, (m : Int) - 1, by omega, Lib.hid rfl, rfl, by rw [hst.out]; go_num⟩
          case measure => simp [intOf]
    · go_wp2
      go_ret
      exact ⟨rfl, bmore hx3 hwr⟩
end Go.Proofs.Ytkmgbcpleopdgaa
