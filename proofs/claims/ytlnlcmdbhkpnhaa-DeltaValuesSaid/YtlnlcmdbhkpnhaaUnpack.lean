/- The walk over bits.Unpack. -/
import Derived.Test.YtlnlcmdbhkpnhaaBunB
namespace Go.Proofs.Ytlnlcmdbhkpnhaa
open Go.RowKit
set_option linter.unusedVariables false

/-- A call gave fresh numbers and an error's number. -/
def GaveNums (w : World) (E : TypeId) (r : List Nat × Nat) (e : Ending) (w' : World) : Prop := ∃ v, e = .returned (.tuple #[v, .int .i64 (r.2 : Nat)]) ∧ Fresh w w' E v (u64v r.1)
theorem gave_no (w : World) (E k : Nat) : GaveNums w E ([], k) (.returned (.tuple #[.slice none 0 0, .int .i64 (k : Nat)])) w := ⟨_, rfl, fresh_nil _ _⟩
theorem madeU64 (N : Nat) : (madeCells #[Value.int .u64 0] N).toList = u64v (List.replicate N 0) := by
  refine List.ext_getElem (by simp [madeCells, u64v]) fun i h1 h2 => ?_
  simp [madeCells, u64v, Nat.mod_one]
theorem cell_u64 {w : World} {base E g n cap : Nat} {l : List Nat} (h : w.ownsRow base E 1 (.slice (some ⟨g, 0, none⟩) n cap) n (u64v l)) (j : Nat) (hj : j < n) :
    w.cell? ⟨g, j, none⟩ = some (u64c l j) := by
  have hl : l.length = n := by have := h.1; simpa [u64v_length] using this
  rw [h.cellAt j (by omega), u64v_at l j (by omega)]
theorem stored_u64 {w : World} {base E g n cap : Nat} {l : List Nat} {x : Int} {y : Nat} (h : w.ownsRow base E 1 (.slice (some ⟨g, 0, none⟩) n cap) n (u64v l)) (j : Nat) (e : x = (y : Nat)) :
    (w.setCell ⟨g, j, none⟩ (.int .u64 x)).ownsRow base E 1 (.slice (some ⟨g, 0, none⟩) n cap) n (u64v (l.set j y)) := by
  subst e
  rw [← u64v_set]
  exact (h.stored j _).1
theorem spec_arg (b : List Nat) (n width : Int) (h : n < 0 ∨ 4000 < n ∨ width < 0 ∨ 64 < width) : unpackSpec b n width = ([], 1) := if_pos h
theorem spec_cut (b : List Nat) (n wd : Nat) (h1 : n ≤ 4000) (h2 : wd ≤ 64) (h : b.length < packSize n wd) : unpackSpec b n wd = ([], 8) := by
  unfold unpackSpec; rw [if_neg (by omega), if_pos (by simpa using h)]
theorem spec_more (b : List Nat) (n wd : Nat) (h1 : n ≤ 4000) (h2 : wd ≤ 64) (h : packSize n wd < b.length) : unpackSpec b n wd = ([], 9) := by
  unfold unpackSpec; rw [if_neg (by omega), if_neg (by simp; omega), if_pos (by simpa using h)]
theorem spec_ok (b : List Nat) (n wd : Nat) (h1 : n ≤ 4000) (h2 : wd ≤ 64) (h : b.length = packSize n wd) (ht : tailClear b (n * wd) = true) : unpackSpec b n wd = (unpacked b n wd, 0) := by
  unfold unpackSpec; rw [if_neg (by omega), if_neg (by simp; omega), if_neg (by simp; omega)]; simp [ht]
theorem spec_bad (b : List Nat) (n wd : Nat) (h1 : n ≤ 4000) (h2 : wd ≤ 64) (h : b.length = packSize n wd) (ht : tailClear b (n * wd) = false) : unpackSpec b n wd = ([], 10) := by
  unfold unpackSpec; rw [if_neg (by omega), if_neg (by simp; omega), if_neg (by simp; omega)]; simp [ht]

set_option maxHeartbeats 400000 in
theorem unpack_arg (ao : Option Addr) (L cap : Nat) (b : List Nat) (n width : Int) (w : World) (h : n < 0 ∨ 4000 < n ∨ width < 0 ∨ 64 < width) :
    Calls Try.prog 63 #[.slice ao L cap, .int .i64 n, .int .i64 width] w (GaveNums w 54 (unpackSpec b n width)) := by
  rw [spec_arg b n width h]
  by_cases h1 : n < 0
  · go_enter Try.func63, Try.ntmps63
    go_wp2
    go_ret2
    exact gave_no _ _ 1
  by_cases h2 : 4000 < n
  · go_enter Try.func63, Try.ntmps63
    go_wp2
    go_ret2
    exact gave_no _ _ 1
  by_cases h3 : width < 0
  · clear h
    go_enter Try.func63, Try.ntmps63
    go_wp2
    go_ret2
    exact gave_no _ _ 1
  · have h4 : 64 < width := by omega
    clear h
    go_enter Try.func63, Try.ntmps63
    go_wp2
    go_ret2
    exact gave_no _ _ 1

set_option maxHeartbeats 400000 in
theorem unpack_len (ao : Option Addr) (L cap n wd : Nat) (b : List Nat) (w : World) (hl : b.length = L) (hn : n ≤ 4000) (hw : wd ≤ 64) (hL : L ≤ 9223372036854775807) (h : L ≠ packSize n wd) :
    Calls Try.prog 63 #[.slice ao L cap, .int .i64 n, .int .i64 wd] w (GaveNums w 54 (unpackSpec b n wd)) := by
  obtain ⟨N, hN⟩ : ∃ N, Hid (N = packSize n wd) := ⟨_, Lib.hid rfl⟩
  have hN2 : N ≤ 800000001 := by rw [hN.out]; exact packSize_le (by omega) hw
  rcases Nat.lt_or_ge L N with hlt | hge
  · rw [spec_cut b n wd hn hw (by rw [hl, ← hN.out]; exact hlt)]
    clear h hl
    go_enter Try.func63, Try.ntmps63
    go_wp2_with (go_at_call 75; refine (size_n n wd N _ (by omega) hw hN).mono ?_; rintro e w' ⟨rfl, rfl⟩)
    go_ret2
    exact gave_no _ _ 8
  · have hgt : N < L := by have := hN.out; omega
    rw [spec_more b n wd hn hw (by rw [hl, ← hN.out]; exact hgt)]
    clear h hl
    go_enter Try.func63, Try.ntmps63
    go_wp2_with (go_at_call 75; refine (size_n n wd N _ (by omega) hw hN).mono ?_; rintro e w' ⟨rfl, rfl⟩)
    go_ret2
    exact gave_no _ _ 9

theorem or64 (v : Nat) (b : Bool) (j : Nat) (hv : v < 2 ^ j) (hj : j < 64) : bits .or .u64 (v : Int) (((b.toNat : Nat) : Int) * 2 ^ j % 18446744073709551616) = ((v ||| (b.toNat <<< j) : Nat) : Int) := by
  have h1 := toNat_le b
  have h2 : 2 ^ j ≤ 2 ^ 63 := Nat.pow_le_pow_right (by decide) (by omega)
  have h3 : b.toNat <<< j ≤ 2 ^ j := by rw [Nat.shiftLeft_eq]; have := Nat.mul_le_mul_right (2 ^ j) h1; omega
  have e : ((b.toNat : Nat) : Int) * 2 ^ j % 18446744073709551616 = ((b.toNat <<< j : Nat) : Int) := by
    have e2 : ((b.toNat <<< j : Nat) : Int) = (b.toNat : Int) * 2 ^ j := by rw [Nat.shiftLeft_eq]; simp
    rw [← e2]
    have h4 : b.toNat <<< j < 18446744073709551616 := by omega
    exact Int.emod_eq_of_lt (Int.natCast_nonneg _) (Int.ofNat_lt.2 h4)
  rw [e]
  exact bits_or_u64_nat _ _ (by omega) (by omega)

theorem or64w (v : Nat) (b : Bool) (j : Nat) (hv : v < 2 ^ j) (hj : j < 64) : bits .or .u64 (v : Int) (IntKind.u64.wrap (IntKind.u64.wrap ((b.toNat : Nat) : Int) * 2 ^ j)) = ((v ||| (b.toNat <<< j) : Nat) : Int) := by
  have h1 := toNat_le b
  have e : IntKind.u64.wrap ((b.toNat : Nat) : Int) = (b.toNat : Nat) := IntWalk.u64_in _ (by omega)
  rw [e, IntKind.wrap_u64]
  exact or64 v b j hv hj
set_option maxHeartbeats 2000000 in
set_option maxRecDepth 100000 in
theorem unpack_same (ao : Option Addr) (L cap n wd : Nat) (b : List Nat) (w : World) (hl : b.length = L) (hb : ∀ x ∈ b, x < 256) (hn : n ≤ 4000) (hw : wd ≤ 64) (h : L = packSize n wd)
    (hc : CellsAt w w.heap.size ao L (u8c b)) :
    Calls Try.prog 63 #[.slice ao L cap, .int .i64 n, .int .i64 wd] w (GaveNums w 54 (unpackSpec b n wd)) := by
  have Hl := Lib.hid hl; clear hl
  have Hb := Lib.hid hb; clear hb
  have hN : Hid (L = packSize n wd) := Lib.hid h
  have hN2 : L ≤ 800000001 := by rw [h]; exact packSize_le (by omega) hw
  have hN3 : L ≤ 40000 := by
    have := Nat.mul_le_mul hn hw
    rw [h]; unfold packSize; omega
  obtain ⟨F, hF⟩ : ∃ F, Hid (F = n * wd) := ⟨_, Lib.hid rfl⟩
  have hmul : n * wd ≤ 256000 := by have := Nat.mul_le_mul hn hw; omega
  have hFL : F ≤ 8 * L := by rw [hF.out, h]; unfold packSize; omega
  clear h
  obtain ⟨i0, hi, hz0, hz1, hz2⟩ := info_parts Try.infoU64
  go_enter Try.func63, Try.ntmps63
  go_wp2_with (go_at_call 75; refine (size_n n wd L _ (by omega) hw hN).mono ?_; rintro e w' ⟨rfl, rfl⟩)
  go_loop [9] (fun at_ => ∃ p : Nat, F ≤ p ∧ p ≤ 8 * L ∧ at_ = .int .i64 p ∧ Hid (∀ q, F ≤ q → q < p → bitOf b q = false)) (fun at_ => 8 * L - (intOf at_).toNat)
  case atStart => exact ⟨F, Nat.le_refl _, hFL, by rw [hF.out]; go_num, Lib.hid (fun q h1 h2 => by omega)⟩
  case round =>
    obtain ⟨p, hp1, hp2, rfl, hcl⟩ := hrel
    by_cases hp : p < 8 * L
    · cases hbit : bitOf b p with
      | true =>
        go_wp2_with (go_at_call 77; refine (bit_n ao L cap p b _ Hb.out Hl.out hp (by omega) hc).mono ?_; rw [hbit]; rintro e w' ⟨rfl, rfl⟩)
        go_ret2
        rw [spec_bad b n wd hn hw (by rw [Hl.out, hN.out]) ?_]
        · exact gave_no _ _ 10
        · cases ht : tailClear b (n * wd) with
          | false => rfl
          | true =>
            rw [tailClear_iff] at ht
            rw [ht p (by rw [← hF.out]; exact hp1) (by rw [Hl.out]; exact hp)] at hbit
            cases hbit
      | false =>
        go_wp2_with (go_at_call 77; refine (bit_n ao L cap p b _ Hb.out Hl.out hp (by omega) hc).mono ?_; rw [hbit]; rintro e w' ⟨rfl, rfl⟩)
        go_round
        case rel => exact ⟨p + 1, by omega, by omega, by go_num, Lib.hid (fun q h1 h2 => by
            by_cases hq : q = p
            · subst hq; exact hbit
            · exact hcl.out q h1 (by omega))⟩
        case measure => simp [intOf]; omega
    · have htc : Hid (tailClear b (n * wd) = true) := Lib.hid (by
        rw [tailClear_iff, ← hF.out, Hl.out]
        exact fun q h1 h2 => hcl.out q h1 (by omega))
      clear hcl
      go_wp2_with (at_make; refine wpList_make_full _ rfl _ _ 70 rfl w.heap.size 54 i0 (.int .u64 0) 1 Try.underlying70 hi hz0 hz1 _ _ _ _ n rfl rfl rfl rfl ?b2 ?b3 (Nat.le_refl _) ?_)
      case b2 => first | omega | (rw [hz2]; omega)
      case b3 => unfold maxLen; omega
      intro w0 hown0 hgrow0
      rw [madeU64] at hown0
      go_wp2
      go_loopw [58] (fun i wr => ∃ k : Nat, k ≤ n ∧ i = .int .i64 k ∧ wr.ownsRow w.heap.size 54 1 (.slice (some ⟨w.heap.size, 0, none⟩) n n) n (u64v (unpackTo b n wd k 0)) ∧ Below w.heap.size w wr)
        (fun i _ => n - (intOf i).toNat)
      case atStart => exact ⟨0, by omega, rfl, by rw [unpackTo_zero]; simpa using hown0, (Below.refl _ _).grown hgrow0 (Nat.le_refl _) (fun k h => by cases h)⟩
      case round =>
        obtain ⟨k, hk, rfl, hown, hnx⟩ := hrel
        by_cases hkn : k < n
        · go_wp2
          go_loopw [62] (fun i wr => ∃ j : Nat, j ≤ wd ∧ i = .int .i64 j ∧ wr.ownsRow w.heap.size 54 1 (.slice (some ⟨w.heap.size, 0, none⟩) n n) n (u64v (unpackTo b n wd k j)) ∧ Below w.heap.size w wr)
            (fun i _ => wd - (intOf i).toNat)
          case atStart => exact ⟨0, by omega, rfl, hown, hnx⟩
          case round =>
            clear hown hnx
            obtain ⟨j, hj, rfl, hown, hnx⟩ := hrel
            by_cases hjw : j < wd
            · have hkw : (k + 1) * wd ≤ n * wd := Nat.mul_le_mul_right _ hkn
              rw [Nat.add_mul] at hkw
              have hpl : k * wd + j < 8 * L := by have := hF.out; omega
              have hkw2 : k * wd ≤ 256000 := by omega
              obtain ⟨old, hold⟩ : ∃ old, Hid (old = numOf (fun m => bitOf b (k * wd + m)) j) := ⟨_, Lib.hid rfl⟩
              have hcell : wr.cell? ⟨w.heap.size, k, none⟩ = some (.int .u64 (old : Nat)) := by
                rw [hold.out, ← unpackTo_getD b n wd k j hkn]; exact cell_u64 hown _ hkn
              have hfr := hown.frozenAt k
              have hcw := (hc.at hnx).drew
              obtain ⟨t, ht⟩ : ∃ t, Hid (t = k * wd) := ⟨_, Lib.hid rfl⟩
              have e0 : ((k : Int) * (wd : Int)) = (t : Int) := by rw [ht.out]; simp
              have e1 : IntKind.i64.wrap (t : Int) = t := IntWalk.i64_in _ (by have := ht.out; omega)
              have e2 : IntKind.i64.wrap ((t : Int) + j) = t + j := IntWalk.i64_in _ (by have := ht.out; omega)
              have e3 : (k : Int) < (n : Int) := by omega
              have e4 : (0 : Int) ≤ (k : Int) := by omega
              have e5 : (0 : Int) ≤ (j : Int) := by omega
              have e6 : (j : Int) ≤ 64 := by omega
              clear hmul hkw hkw2
              go_wp2
              go_still_tail 16, (by kernel_rfl)
              still_call (same_flip (bit_n ao L cap (t + j) b wr.drew Hb.out Hl.out (by rw [ht.out]; exact hpl) (by have := ht.out; omega) hcw))
              repeat still_step
              refine wpStill_nil ?_
              change wpList _ _ _ _ _ wr.drew
              go_wp2
              go_roundw
              case rel =>
                have hold2 : old < 2 ^ j := by rw [hold.out]; exact numOf_lt _ _
                have hst := or64w old (bitOf b (t + j)) j hold2 (by omega)
                refine ⟨j + 1, by omega, by go_num, ?_, (hnx.setCell (by simp) _).drew⟩
                have hs := stored_u64 hown k hst
                have hps := unpackTo_succ b n wd k j hkn
                rw [← hold.out, ← ht.out] at hps
                rw [hps] at hs
                exact hs.drew
              case measure => simp [intOf]; omega
            · go_wp2
              go_roundw
              case rel =>
                obtain rfl : j = wd := by omega
                rw [unpackTo_next] at hown
                exact ⟨k + 1, by omega, by go_num, hown, hnx⟩
              case measure => simp [intOf]; omega
        · go_wp2
          go_ret2
          obtain rfl : k = n := by omega
          rw [unpackTo_all] at hown
          rw [spec_ok b k wd hn hw (by rw [Hl.out, hN.out]) htc.out]
          refine ⟨_, rfl, ?_, hnx⟩
          rw [u64v_length, unpacked_length]
          exact hown
theorem unpack_any (ao : Option Addr) (L cap : Nat) (n width : Int) (b : List Nat) (w : World) (hl : b.length = L) (hb : ∀ x ∈ b, x < 256) (hL : L ≤ 9223372036854775807) (hc : CellsAt w w.heap.size ao L (u8c b)) :
    Calls Try.prog 63 #[.slice ao L cap, .int .i64 n, .int .i64 width] w (GaveNums w 54 (unpackSpec b n width)) := by
  by_cases h : n < 0 ∨ 4000 < n ∨ width < 0 ∨ 64 < width
  · exact unpack_arg ao L cap b n width w h
  · obtain ⟨k, rfl⟩ : ∃ k : Nat, n = k := ⟨n.toNat, by omega⟩
    obtain ⟨wd, rfl⟩ : ∃ k : Nat, width = k := ⟨width.toNat, by omega⟩
    by_cases h2 : L = packSize k wd
    · exact unpack_same ao L cap k wd b w hl hb (by omega) (by omega) h2 hc
    · exact unpack_len ao L cap k wd b w hl (by omega) (by omega) hL h2
end Go.Proofs.Ytlnlcmdbhkpnhaa
