/- The walk over the document's Unpack. -/
import Derived.Test.YtlnlcmdbhkpnhaaUnpack
namespace Go.Proofs.Ytlnlcmdbhkpnhaa
open Go.RowKit
set_option linter.unusedVariables false

set_option maxHeartbeats 400000 in
theorem runpack_arg (ao : Option Addr) (L cap : Nat) (b : List Nat) (n width : Int) (w : World) (h : n < 0 ∨ 4000 < n ∨ width < 0 ∨ 64 < width) :
    Calls Try.prog 47 #[.slice ao L cap, .int .i64 n, .int .i64 width] w (GaveNums w 54 (unpackSpec b n width)) := by
  rw [spec_arg b n width h]
  by_cases h1 : n < 0
  · go_enter Try.func47, Try.ntmps47
    go_wp2
    go_ret2
    exact gave_no _ _ 1
  by_cases h2 : 4000 < n
  · go_enter Try.func47, Try.ntmps47
    go_wp2
    go_ret2
    exact gave_no _ _ 1
  by_cases h3 : width < 0
  · clear h
    go_enter Try.func47, Try.ntmps47
    go_wp2
    go_ret2
    exact gave_no _ _ 1
  · have h4 : 64 < width := by omega
    clear h
    go_enter Try.func47, Try.ntmps47
    go_wp2
    go_ret2
    exact gave_no _ _ 1

set_option maxHeartbeats 400000 in
theorem runpack_len (ao : Option Addr) (L cap n wd : Nat) (b : List Nat) (w : World) (hl : b.length = L) (hn : n ≤ 4000) (hw : wd ≤ 64) (hL : L ≤ 9223372036854775807) (h : L ≠ packSize n wd) :
    Calls Try.prog 47 #[.slice ao L cap, .int .i64 n, .int .i64 wd] w (GaveNums w 54 (unpackSpec b n wd)) := by
  obtain ⟨N, hN⟩ : ∃ N, Hid (N = packSize n wd) := ⟨_, Lib.hid rfl⟩
  have hN2 : N ≤ 800000001 := by rw [hN.out]; exact packSize_le (by omega) hw
  rcases Nat.lt_or_ge L N with hlt | hge
  · rw [spec_cut b n wd hn hw (by rw [hl, ← hN.out]; exact hlt)]
    clear h hl
    go_enter Try.func47, Try.ntmps47
    go_wp2_with (go_at_call 64; refine (rsize_n n wd N _ (by omega) hw hN).mono ?_; rintro e w' ⟨rfl, rfl⟩)
    go_ret2
    exact gave_no _ _ 8
  · have hgt : N < L := by have := hN.out; omega
    rw [spec_more b n wd hn hw (by rw [hl, ← hN.out]; exact hgt)]
    clear h hl
    go_enter Try.func47, Try.ntmps47
    go_wp2_with (go_at_call 64; refine (rsize_n n wd N _ (by omega) hw hN).mono ?_; rintro e w' ⟨rfl, rfl⟩)
    go_ret2
    exact gave_no _ _ 9

theorem unpacked_snoc (b : List Nat) (k wd : Nat) : unpacked b (k + 1) wd = unpacked b k wd ++ [numOf (fun m => bitOf b (k * wd + m)) wd] := by
  simp [unpacked, List.range_succ]
/-- What the document's Unpack reckons of a byte. -/
theorem div_and (v m : Nat) (hv : v < 256) : bits .and .u8 ((v : Int) / 2 ^ m) 1 = ((v.testBit m).toNat : Nat) := by
  have e : ((v : Int) / 2 ^ m) = ((v >>> m : Nat) : Int) := by rw [Nat.shiftRight_eq_div_pow]; simp
  rw [e]; exact bit_and v m hv
theorem div_and_eq (v m : Nat) (hv : v < 256) : (bits .and .u8 ((v : Int) / 2 ^ m) 1 == 1) = v.testBit m := by
  rw [div_and v m hv]; cases v.testBit m <;> rfl

set_option maxHeartbeats 2000000 in
set_option maxRecDepth 100000 in
theorem runpack_same (ao : Option Addr) (L cap n wd : Nat) (b : List Nat) (w : World) (hl : b.length = L) (hb : ∀ x ∈ b, x < 256) (hn : n ≤ 4000) (hw : wd ≤ 64) (h : L = packSize n wd)
    (hc : CellsAt w w.heap.size ao L (u8c b)) :
    Calls Try.prog 47 #[.slice ao L cap, .int .i64 n, .int .i64 wd] w (GaveNums w 54 (unpackSpec b n wd)) := by
  have Hl := Lib.hid hl; clear hl
  have Hb := Lib.hid hb; clear hb
  have hN : Hid (L = packSize n wd) := Lib.hid h
  have hN2 : L ≤ 800000001 := by rw [h]; exact packSize_le (by omega) hw
  have hN3 : L ≤ 40000 := by
    have := Nat.mul_le_mul hn hw
    rw [h]; unfold packSize; omega
  obtain ⟨F, hF⟩ : ∃ F, Hid (F = n * wd) := ⟨_, Lib.hid rfl⟩
  have hFL : F ≤ 8 * L := by rw [hF.out, h]; unfold packSize; omega
  have hB256 : ∀ p, p < L → b.getD p 0 < 256 := fun p hp => by
    rw [List.getD_eq_getElem?_getD, List.getElem?_eq_getElem (by rw [Hl.out]; exact hp)]
    exact Hb.out _ (List.getElem_mem _)
  have HB := Lib.hid hB256; clear hB256
  clear h
  go_enter Try.func47, Try.ntmps47
  go_wp2_with (go_at_call 64; refine (rsize_n n wd L _ (by omega) hw hN).mono ?_; rintro e w' ⟨rfl, rfl⟩)
  go_loopw [8, 9, 10] (fun v at_ i wr => ∃ k t : Nat, k ≤ n ∧ Hid (t = k * wd) ∧ i = .int .i64 k ∧ at_ = .int .i64 t ∧ wr.ownsRow w.heap.size 54 1 v k (u64v (unpacked b k wd)) ∧ Below w.heap.size w wr)
    (fun _ _ i _ => n - (intOf i).toNat)
  case atStart => exact ⟨0, 0, by omega, Lib.hid (by omega), rfl, rfl, World.ownsRow_nil _ _ _ _, Below.refl _ _⟩
  case round =>
    obtain ⟨k, t, hk, ht, rfl, rfl, hown, hnx⟩ := hrel
    by_cases hkn : k < n
    · go_wp2
      go_loop [9, 11, 12] (fun at_ v j => ∃ m t : Nat, m ≤ wd ∧ Hid (t = k * wd + m) ∧ j = .int .i64 m ∧ at_ = .int .i64 t ∧ v = .int .u64 (numOf (fun m => bitOf b (k * wd + m)) m : Nat)) (fun _ _ j => wd - (intOf j).toNat)
      case atStart => exact ⟨0, t, by omega, Lib.hid (by rw [ht.out]; omega), rfl, rfl, rfl⟩
      case round =>
        clear ht
        obtain ⟨m, t, hm, ht, rfl, rfl, rfl⟩ := hrel
        have hkw : (k + 1) * wd ≤ n * wd := Nat.mul_le_mul_right _ hkn
        rw [Nat.add_mul, ← hF.out] at hkw
        have ht2 : t ≤ 8 * L := by have := ht.out; omega
        by_cases hmw : m < wd
        · have hpl : t < 8 * L := by have := ht.out; omega
          obtain ⟨bl, off, rfl, hblt, hcell⟩ := hc (t / 8) (by omega)
          have hcw := (hnx.cell (by exact hblt)).trans hcell
          obtain ⟨x, hx⟩ : ∃ x, Hid (x = b.getD (t / 8) 0) := ⟨_, Lib.hid rfl⟩
          have hx256 : x < 256 := by rw [hx.out]; exact HB.out _ (by omega)
          rw [u8c, ← hx.out] at hcw
          obtain ⟨old, hold⟩ : ∃ old, Hid (old = numOf (fun m => bitOf b (k * wd + m)) m) := ⟨_, Lib.hid rfl⟩
          rw [← hold.out]
          clear hc hcell hkw
          go_wp2
          go_round
          case rel =>
            have hbit : x.testBit (t % 8) = bitOf b (k * wd + m) := by rw [← ht.out, hx.out]; rfl
            have hv := or64w old (x.testBit (t % 8)) m (by rw [hold.out]; exact numOf_lt _ _) (by omega)
            rw [← div_and x (t % 8) hx256] at hv
            refine ⟨m + 1, t + 1, by omega, Lib.hid (by rw [ht.out]; omega), by go_num, by go_num, ?_⟩
            rw [hv, numOf, ← hold.out, hbit]
          case measure => simp [intOf]; omega
        · go_wp2_with (at_builtin; refine wpList_append_all1 sl_u64 rfl (.tmp 67) (.tmp 69) rfl rfl (hown.alloc _) rfl (cells_alloc _ _ _ 1 (fun _ => .int .u64 (numOf (fun m => bitOf b (k * wd + m)) m : Nat)) (fun i hi => by (obtain rfl : i = 0 := (by omega)); rfl)) (fun h => by cases h) (fun _ _ => rfl) (by unfold maxLen; omega) (by omega) (by have := hnx.size; simp; omega) ?_)
          intro v' w1 hown1 hgrow1
          have hb1 : Below w.heap.size w w1 := (balloc hnx _).grown hgrow1 (by have := hnx.size; simp; omega) (fun k hk => (hown.lt k hk).1)
          have Hown : Hid (w1.ownsRow w.heap.size 54 1 v' (k + 1) (u64v (unpacked b (k + 1) wd))) := Lib.hid (by
            obtain rfl : m = wd := by omega
            rw [unpacked_snoc, ← u64v_append]
            exact hown1)
          clear hown1 hgrow1 hown hnx
          go_wp2
          go_roundw
          case rel => exact ⟨k + 1, t, by omega, Lib.hid (by rw [ht.out, Nat.add_mul]; omega), by go_num, rfl, Hown.out, hb1⟩
          case measure => simp [intOf]; omega
    · obtain rfl : k = n := by omega
      have htF : t = F := by rw [ht.out, hF.out]
      have hF2 := hF.out
      clear ht
      subst htF
      go_wp2
      go_loop [9] (fun at_ => ∃ p : Nat, t ≤ p ∧ p ≤ 8 * L ∧ at_ = .int .i64 p ∧ Hid (∀ q, t ≤ q → q < p → bitOf b q = false)) (fun at_ => 8 * L - (intOf at_).toNat)
      case atStart => exact ⟨t, Nat.le_refl _, hFL, rfl, Lib.hid (fun q h1 h2 => by omega)⟩
      case round =>
        obtain ⟨p, hp1, hp2, rfl, hcl⟩ := hrel
        by_cases hp : p < 8 * L
        · obtain ⟨bl, off, rfl, hblt, hcell⟩ := hc (p / 8) (by omega)
          have hcw := (hnx.cell (by exact hblt)).trans hcell
          obtain ⟨x, hx⟩ : ∃ x, Hid (x = b.getD (p / 8) 0) := ⟨_, Lib.hid rfl⟩
          have hx256 : x < 256 := by rw [hx.out]; exact HB.out _ (by omega)
          rw [u8c, ← hx.out] at hcw
          have hbit : x.testBit (p % 8) = bitOf b p := by rw [hx.out]; rfl
          have hte := div_and_eq x (p % 8) hx256
          rw [hbit] at hte
          have Hbit := Lib.hid hbit
          clear hbit hc hcell
          cases hb1 : bitOf b p with
          | true =>
            rw [hb1] at hte
            go_wp2
            go_ret2
            rw [spec_bad b k wd hn hw (by rw [Hl.out, hN.out]) ?_]
            · exact ⟨_, rfl, World.ownsRow_nil _ _ _ _, hnx⟩
            · cases ht : tailClear b (k * wd) with
              | false => rfl
              | true =>
                rw [tailClear_iff] at ht
                rw [ht p (by rw [← hF2]; exact hp1) (by rw [Hl.out]; exact hp)] at hb1
                cases hb1
          | false =>
            rw [hb1] at hte
            go_wp2
            go_round
            case rel => exact ⟨p + 1, by omega, by omega, by go_num, Lib.hid (fun q h1 h2 => by
                by_cases hq : q = p
                · subst hq; exact hb1
                · exact hcl.out q h1 (by omega))⟩
            case measure => simp [intOf]; omega
        · go_wp2
          go_ret2
          rw [spec_ok b k wd hn hw (by rw [Hl.out, hN.out]) (by
            rw [tailClear_iff, ← hF2, Hl.out]
            exact fun q h1 h2 => hcl.out q h1 (by omega))]
          refine ⟨_, rfl, ?_, hnx⟩
          rw [u64v_length, unpacked_length]
          exact hown
theorem runpack_any (ao : Option Addr) (L cap : Nat) (n width : Int) (b : List Nat) (w : World) (hl : b.length = L) (hb : ∀ x ∈ b, x < 256) (hL : L ≤ 9223372036854775807) (hc : CellsAt w w.heap.size ao L (u8c b)) :
    Calls Try.prog 47 #[.slice ao L cap, .int .i64 n, .int .i64 width] w (GaveNums w 54 (unpackSpec b n width)) := by
  by_cases h : n < 0 ∨ 4000 < n ∨ width < 0 ∨ 64 < width
  · exact runpack_arg ao L cap b n width w h
  · obtain ⟨k, rfl⟩ : ∃ k : Nat, n = k := ⟨n.toNat, by omega⟩
    obtain ⟨wd, rfl⟩ : ∃ k : Nat, width = k := ⟨width.toNat, by omega⟩
    by_cases h2 : L = packSize k wd
    · exact runpack_same ao L cap k wd b w hl hb (by omega) (by omega) h2 hc
    · exact runpack_len ao L cap k wd b w hl (by omega) (by omega) hL h2
end Go.Proofs.Ytlnlcmdbhkpnhaa
