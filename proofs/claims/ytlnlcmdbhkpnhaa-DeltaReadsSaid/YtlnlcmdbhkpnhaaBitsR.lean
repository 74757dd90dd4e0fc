/- The walks over the document's chapter 2: size, Pack. -/
import Derived.Test.YtlnlcmdbhkpnhaaBitsW
namespace Go.Proofs.Ytlnlcmdbhkpnhaa
open Go.RowKit
set_option linter.unusedVariables false

set_option maxHeartbeats 400000 in
theorem rsize_any (a b : Int) (w : World) (ha : 0 ≤ a) (ha2 : a ≤ 100000000) (hb : 0 ≤ b) (hb2 : b ≤ 64) (hab : 0 ≤ a * b) (hab2 : a * b ≤ 6400000000) :
    Calls Try.prog 64 #[.int .i64 a, .int .i64 b] w fun e w' => e = .returned (.int .i64 ((a*b+7)/8)) ∧ w = w' := by
  go_enter Try.func64, Try.ntmps64
  go_wp2
  go_ret
  exact ⟨rfl, rfl⟩
theorem rsize_n (n wd N : Nat) (w : World) (hn : n ≤ 100000000) (hw : wd ≤ 64) (hN : Hid (N = packSize n wd)) :
    Calls Try.prog 64 #[.int .i64 n, .int .i64 wd] w fun e w' => e = .returned (.int .i64 N) ∧ w = w' := by
  have h1 := mul_le_64 hn hw
  refine (rsize_any n wd w (by omega) (by omega) (by omega) (by omega) ?_ ?_).mono ?_
  · have h : (0 : Int) ≤ ((n * wd : Nat) : Int) := Int.natCast_nonneg _
    rwa [Int.natCast_mul] at h
  · have h : ((n * wd : Nat) : Int) ≤ 6400000000 := by omega
    rwa [Int.natCast_mul] at h
  · rintro e w' ⟨rfl, rfl⟩
    rw [hN.out, packSize_cast]; exact ⟨rfl, rfl⟩

set_option maxHeartbeats 1000000 in
set_option maxRecDepth 100000 in
theorem rpack_in (ao : Option Addr) (n cap wd : Nat) (l : List Nat) (w : World) (hl : l.length = n) (hn : n ≤ 100000000) (hw : wd ≤ 64) (hb : ∀ x ∈ l, x < 18446744073709551616)
    (hc : CellsAt w w.heap.size ao n (u64c l)) :
    Calls Try.prog 40 #[.slice ao n cap, .int .i64 wd] w (GaveFresh w 5 (u8v (packed l wd))) := by
  have Hl := Lib.hid hl; clear hl
  have Hb := Lib.hid hb; clear hb
  obtain ⟨N, hN⟩ : ∃ N, Hid (N = packSize n wd) := ⟨_, Lib.hid rfl⟩
  have hN2 : N ≤ 800000001 := by rw [hN.out]; exact packSize_le hn hw
  have hmul : n * wd ≤ 6400000000 := mul_le_64 hn hw
  obtain ⟨g, hg⟩ : ∃ g, Hid (g = bitAt l wd) := ⟨_, Lib.hid rfl⟩
  have hpk : Hid (packed l wd = packTo g N (n * wd)) := Lib.hid (by rw [packed, Hl.out, hN.out, hg.out])
  obtain ⟨i0, hi, hz0, hz1, hz2⟩ := info_parts Try.infoU8
  go_enter Try.func40, Try.ntmps40
  go_wp2_with (first
    | (go_at_call 64; refine (rsize_n n wd N _ hn hw hN).mono ?_; rintro e w' ⟨rfl, rfl⟩)
    | (at_make; refine wpList_make_full _ rfl _ _ 26 rfl w.heap.size 5 i0 (.int .u8 0) 1 Try.underlying26 hi hz0 hz1 _ _ _ _ N rfl rfl rfl rfl ?b2 ?b3 (Nat.le_refl _) ?_))
  case b2 => rw [hz2]; omega
  case b3 => unfold maxLen; omega
  intro w0 hown0 hgrow0
  rw [madeU8] at hown0
  go_wp2
  go_loopw [6, 7] (fun at_ i wr => ∃ k t : Nat, k ≤ n ∧ Hid (t = k * wd) ∧ i = .int .i64 k ∧ at_ = .int .i64 t ∧ wr.ownsRow w.heap.size 5 1 (.slice (some ⟨w.heap.size, 0, none⟩) N N) N (u8v (packTo g N t)) ∧ Below w.heap.size w wr)
    (fun _ i _ => n - (intOf i).toNat)
  case atStart => exact ⟨0, 0, by omega, Lib.hid (by omega), rfl, rfl, by rw [packTo_zero]; simpa using hown0, (Below.refl _ _).grown hgrow0 (Nat.le_refl _) (fun k h => by cases h)⟩
  case round =>
    obtain ⟨k, t, hk, ht, rfl, rfl, hown, hnx⟩ := hrel
    by_cases hkn : k < n
    · obtain ⟨b, off, hao, hb, hlc⟩ := hc k hkn
      subst hao
      clear hc
      obtain ⟨v, hv⟩ : ∃ v, v = l.getD k 0 := ⟨_, rfl⟩
      rw [u64c, ← hv] at hlc
      have Hv := Lib.hid hv; clear hv
      have hv64 : v < 18446744073709551616 := by
        rw [Hv.out, List.getD_eq_getElem?_getD, List.getElem?_eq_getElem (by rw [Hl.out]; exact hkn)]
        exact Hb.out _ (List.getElem_mem _)
      go_wp2
      go_loopw [6, 8] (fun at_ i wr => ∃ m t : Nat, m ≤ wd ∧ Hid (t = k * wd + m) ∧ i = .int .i64 m ∧ at_ = .int .i64 t ∧ wr.ownsRow w.heap.size 5 1 (.slice (some ⟨w.heap.size, 0, none⟩) N N) N (u8v (packTo g N t)) ∧ Below w.heap.size w wr)
        (fun _ i _ => wd - (intOf i).toNat)
      case atStart => exact ⟨0, t, by omega, ht, rfl, rfl, hown, hnx⟩
      case round =>
        clear hown hnx ht
        obtain ⟨m, t, hm, ht, rfl, rfl, hown, hnx⟩ := hrel
        by_cases hmw : m < wd
        · have htl : t < n * wd := by
            rw [ht.out]
            have : (k + 1) * wd ≤ n * wd := Nat.mul_le_mul_right _ hkn
            rw [Nat.add_mul] at this; omega
          have htn : t / 8 < N := by rw [hN.out]; unfold packSize; omega
          have ht2 : t ≤ 6400000000 := by omega
          obtain ⟨old, hold⟩ : ∃ old, Hid (old = (packTo g N t).getD (t / 8) 0) := ⟨_, Lib.hid rfl⟩
          have hcell : wr.cell? ⟨w.heap.size, t / 8, none⟩ = some (.int .u8 (old : Nat)) := by rw [hold.out]; exact cell_u8 hown _ htn
          have hcell1 := (hnx.cell (by exact hb)).trans hlc
          have hfr := hown.frozenAt (t / 8)
          clear hmul htl
          have hgt : Hid (v.testBit m = g t) := Lib.hid (by rw [hg.out, ht.out, bitAt_at l wd k m hmw, Hv.out])
          go_wp2
          · go_roundw
            case rel =>
              have htb : v.testBit m = true := by rw [← rpack_test v m hv64]; assumption
              have hst := rpack_store old (t % 8) (by rw [hold.out]; exact packTo_getD_lt _ _ _ _) (by omega)
              refine ⟨m + 1, t + 1, by omega, Lib.hid (by rw [ht.out]; omega), by go_num, by go_num, ?_, hnx.setCell (by simp) _⟩
              have hs := stored_u8 hown (t / 8) hst
              have hps := packTo_succ g N t htn
              rw [← hold.out, ← hgt.out, htb] at hps
              rw [hps] at hs
              exact hs
            case measure => simp [intOf]; omega
          · go_roundw
            case rel =>
              have htb : v.testBit m = false := by rw [← rpack_test v m hv64]; assumption
              refine ⟨m + 1, t + 1, by omega, Lib.hid (by rw [ht.out]; omega), by go_num, by go_num, ?_, hnx⟩
              rw [← packTo_skip g N t (by rw [← hgt.out]; exact htb)]
              exact hown
            case measure => simp [intOf]; omega
        · go_wp2
          go_roundw
          case rel => exact ⟨k + 1, t, by omega, Lib.hid (by rw [ht.out, Nat.add_mul]; omega), by go_num, rfl, hown, hnx⟩
          case measure => simp [intOf]; omega
    · go_wp2
      go_ret
      obtain rfl : k = n := by omega
      have hx : t = k * wd := ht.out
      refine ⟨_, rfl, ?_, hnx⟩
      rw [hpk.out, u8v_length, packTo_length, ← hx]
      exact hown
end Go.Proofs.Ytlnlcmdbhkpnhaa
