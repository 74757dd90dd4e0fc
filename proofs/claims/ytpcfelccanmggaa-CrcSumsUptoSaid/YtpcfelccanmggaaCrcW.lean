/- The walks over crc.add, crc.Sum, the document's Sum, known. -/
import Derived.Test.YtpcfelccanmggaaMem
import Derived.Test.YtpcfelccanmggaaCrcP
import Derived.ScopeJumps
namespace Go.Proofs.Ytpcfelccanmggaa
open Go.RowKit
set_option linter.unusedVariables false

theorem wraps_u32 (n : Int) (h0 : 0 ≤ n) (h1 : n < 2 ^ 32) : IntKind.u32.wrap n = n := by rw [IntKind.wrap_u32]; omega
theorem bits_and_u32 (a b : Nat) (ha : a < 4294967296) (hb : b < 4294967296) : bits .and .u32 (a : Int) (b : Int) = ((a &&& b : Nat) : Int) :=
  (bits_nat .u32 32 (by decide) wraps_u32 a b (by simpa using ha) (by simpa using hb)).1
theorem bits_xor_u32 (a b : Nat) (ha : a < 4294967296) (hb : b < 4294967296) : bits .xor .u32 (a : Int) (b : Int) = ((a ^^^ b : Nat) : Int) := by
  have hx : a ^^^ b < 2 ^ 32 := Nat.xor_lt_two_pow (by omega) (by omega)
  have h1 : (BitVec.ofInt 32 (a : Int)).toNat = a := by
    rw [BitVec.ofInt_natCast, BitVec.toNat_ofNat]; exact Nat.mod_eq_of_lt (by omega)
  have h2 : (BitVec.ofInt 32 (b : Int)).toNat = b := by
    rw [BitVec.ofInt_natCast, BitVec.toNat_ofNat]; exact Nat.mod_eq_of_lt (by omega)
  show IntKind.u32.wrap ((BitVec.ofInt 32 (a : Int) ^^^ BitVec.ofInt 32 (b : Int)).toNat : Int) = _
  rw [BitVec.toNat_xor, h1, h2]
  exact IntWalk.u32_in _ (by omega)
theorem low_u32 (c : Nat) (hc : c < 4294967296) : bits .and .u32 (c : Int) 1 = ((c % 2 : Nat) : Int) :=
  (bits_and_u32 c 1 hc (by decide)).trans (by rw [Nat.and_one_is_mod])
theorem odd_u32 (c : Nat) (hc : c < 4294967296) (h : c % 2 = 1) : (bits .and .u32 (c : Int) 1 != 0) = true := by rw [low_u32 c hc, h]; rfl
theorem even_u32 (c : Nat) (hc : c < 4294967296) (h : c % 2 = 0) : (bits .and .u32 (c : Int) 1 != 0) = false := by rw [low_u32 c hc, h]; rfl
theorem step_odd (c : Nat) (hc : c < 4294967296) (h : c % 2 = 1) : bits .xor .u32 ((c : Int) / 2) 3988292384 = ((cstep c : Nat) : Int) := by
  have e : ((c : Int) / 2) = ((c / 2 : Nat) : Int) := by omega
  rw [e]
  refine (bits_xor_u32 (c / 2) 3988292384 (by omega) (by decide)).trans ?_
  unfold cstep; rw [if_pos h]; rfl
theorem step_even (c : Nat) (h : c % 2 = 0) : ((c : Int) / 2) = ((cstep c : Nat) : Int) := by
  unfold cstep; rw [if_neg (by omega)]; omega

set_option maxHeartbeats 1000000 in
theorem add_n (c x : Nat) (w : World) (hc : c < 4294967296) (hx : x < 256) :
    Calls Try.prog 14 #[.int .u32 c, .int .u8 x] w fun e w' => e = .returned (.int .u32 (cadd c x : Nat)) ∧ w = w' := by
  have h0 : c ^^^ x < 4294967296 := by have := @Nat.xor_lt_two_pow c x 32 (by omega) (by omega); simpa using this
  have hxor := bits_xor_u32 c x hc (by omega)
  obtain ⟨c0, hc0⟩ : ∃ c0, c0 = c ^^^ x := ⟨_, rfl⟩
  rw [← hc0] at hxor h0
  have Hc0 := Lib.hid hc0; clear hc0
  go_enter Try.func14, Try.ntmps14
  go_wp2
  refine wp_scope_jumps 0 (fun a' w' => w' = w ∧ ∃ (m d : Nat) (u6 u7 u8 u9 u10 u11 u12 u13 u14 u15 u16 u17 u18 u19 u20 u21 u22 : Value), a' = { tmps := #[.int .u32 d, .int .u8 x, undef, undef, .int .u32 0, .int .i64 m, u6, u7, u8, u9, u10, u11, u12, u13, u14, u15, u16, u17, u18, u19, u20, u21, u22], defers := [] } ∧ m < 8 ∧ d < 4294967296 ∧ Hid (csteps (8 - m) d = csteps 8 c0)) (fun a' _ => 8 - (intOf (a'.tmps.getD 5 undef)).toNat) rfl ?_ ?_
  · go_wp2
    go_step3
    have hlt := cstep_lt c0 h0
    rcases Nat.mod_two_eq_zero_or_one c0 with hp | hp
    · have h1 := even_u32 c0 h0 hp
      have h2 := step_even c0 hp
      clear hp
      go_wp2
      go_step3
      exact ⟨rfl, rfl, 1, cstep c0, _, _, _, _, _, _, _, _, _, _, _, _, _, _, _, _, _, rfl, by omega, hlt, Lib.hid rfl⟩
    · have h1 := odd_u32 c0 h0 hp
      have h2 := step_odd c0 h0 hp
      clear hp
      go_wp2
      go_step3
      exact ⟨rfl, rfl, 1, cstep c0, _, _, _, _, _, _, _, _, _, _, _, _, _, _, _, _, _, rfl, by omega, hlt, Lib.hid rfl⟩
  · rintro a' w' ⟨rfl, m, d, u6, u7, u8, u9, u10, u11, u12, u13, u14, u15, u16, u17, u18, u19, u20, u21, u22, rfl, hm, hd, hs⟩
    have hlt := cstep_lt d hd
    have hs2 : Hid (csteps (8 - (m + 1)) (cstep d) = csteps 8 c0) := Lib.hid (by
      rw [← hs.out, show 8 - m = (8 - (m + 1)) + 1 by omega]; rfl)
    rcases Nat.mod_two_eq_zero_or_one d with hp | hp
    · have h1 := even_u32 d hd hp
      have h2 := step_even d hp
      clear hp
      by_cases hm7 : m + 1 < 8
      · go_wp2
        go_step3
        refine ⟨rfl, ⟨rfl, m + 1, cstep d, _, _, _, _, _, _, _, _, _, _, _, _, _, _, _, _, _, rfl, by omega, hlt, hs2⟩, ?_⟩
        show 8 - (((m : Nat) : Int) + 1).toNat < 8 - ((m : Nat) : Int).toNat
        omega
      · obtain rfl : m = 7 := by omega
        go_wp2
        simp only [Exit.jump]
        go_ret
        refine ⟨?_, rfl⟩
        have := hs2.out
        rw [cadd, ← Hc0.out, ← this]; rfl
    · have h1 := odd_u32 d hd hp
      have h2 := step_odd d hd hp
      clear hp
      by_cases hm7 : m + 1 < 8
      · go_wp2
        go_step3
        refine ⟨rfl, ⟨rfl, m + 1, cstep d, _, _, _, _, _, _, _, _, _, _, _, _, _, _, _, _, _, rfl, by omega, hlt, hs2⟩, ?_⟩
        show 8 - (((m : Nat) : Int) + 1).toNat < 8 - ((m : Nat) : Int).toNat
        omega
      · obtain rfl : m = 7 := by omega
        go_wp2
        simp only [Exit.jump]
        go_ret
        refine ⟨?_, rfl⟩
        have := hs2.out
        rw [cadd, ← Hc0.out, ← this]; rfl

/-- Slices of bytes as the cells of a slice of slices: what each part is. -/
def PartsAt (w : World) (B : Nat) (ao : Option Addr) (n : Nat) (ps : List (List Nat)) : Prop :=
  ps.length = n ∧ ∀ i, i < n → ∃ b off, ao = some ⟨b, off, none⟩ ∧ b < B ∧ ∃ a m c, w.cell? ⟨b, off + i, none⟩ = some (.slice a m c) ∧ (ps.getD i []).length = m ∧ m ≤ 9223372036854775807 ∧ CellsAt w B a m (u8c (ps.getD i []))
theorem PartsAt.below {w w' : World} {B : Nat} {ao : Option Addr} {n : Nat} {ps : List (List Nat)} (h : PartsAt w B ao n ps) (hb : Below B w w') : PartsAt w' B ao n ps :=
  ⟨h.1, fun i hi => let ⟨b, off, e, hlt, a, m, c, h1, h2, h3, h4⟩ := h.2 i hi; ⟨b, off, e, hlt, a, m, c, (hb.cell (by exact hlt)).trans h1, h2, h3, h4.below hb⟩⟩
theorem PartsAt.mono {w : World} {B B' : Nat} {ao : Option Addr} {n : Nat} {ps : List (List Nat)} (h : PartsAt w B ao n ps) (hB : B ≤ B') : PartsAt w B' ao n ps :=
  ⟨h.1, fun i hi => let ⟨b, off, e, hlt, a, m, c, h1, h2, h3, h4⟩ := h.2 i hi; ⟨b, off, e, Nat.lt_of_lt_of_le hlt hB, a, m, c, h1, h2, h3, h4.mono hB⟩⟩

theorem flatten_take (ps : List (List Nat)) (k : Nat) (hk : k < ps.length) : (ps.take (k + 1)).flatten = (ps.take k).flatten ++ ps.getD k [] := by
  rw [List.take_succ_eq_append_getElem hk, List.flatten_append, List.getD_eq_getElem?_getD, List.getElem?_eq_getElem hk]; simp
theorem creg_snoc (a : List Nat) (x : Nat) : creg (a ++ [x]) = cadd (creg a) x := by rw [csum_append]; rfl
theorem take_snoc' (p : List Nat) (j : Nat) (hj : j < p.length) : p.take (j + 1) = p.take j ++ [p.getD j 0] := by
  rw [List.take_succ_eq_append_getElem hj, List.getD_eq_getElem?_getD, List.getElem?_eq_getElem hj]; rfl
theorem mem_flatten_lt {ps : List (List Nat)} (h : ∀ p ∈ ps, ∀ x ∈ p, x < 256) : ∀ x ∈ ps.flatten, x < 256 := by
  intro x hx
  obtain ⟨p, hp, hxp⟩ := List.mem_flatten.1 hx
  exact h p hp x hxp

set_option maxHeartbeats 1000000 in
set_option maxRecDepth 100000 in
theorem sum_n (ao : Option Addr) (n cap : Nat) (ps : List (List Nat)) (w : World) (hn : n ≤ 9223372036854775807) (hb : ∀ p ∈ ps, ∀ x ∈ p, x < 256) (hc : PartsAt w w.heap.size ao n ps) :
    Calls Try.prog 11 #[.slice ao n cap] w fun e w' => e = .returned (.int .u32 (csum ps.flatten : Nat)) ∧ w = w' := by
  have Hb := Lib.hid hb; clear hb
  obtain ⟨hl, hc⟩ := hc
  have Hl := Lib.hid hl; clear hl
  go_enter Try.func11, Try.ntmps11
  go_wp2
  go_loop [3, 10] (fun c i => ∃ k : Nat, k ≤ n ∧ i = .int .i64 k ∧ c = .int .u32 (creg (ps.take k).flatten : Nat)) (fun _ i => n - (intOf i).toNat)
  case atStart => exact ⟨0, Nat.zero_le _, rfl, rfl⟩
  case round =>
    obtain ⟨k, hk, rfl, rfl⟩ := hrel
    by_cases hkn : k < n
    · obtain ⟨b, off, rfl, hb, a, m, c, hcell, hm, hm2, hpc⟩ := hc k hkn
      obtain ⟨p, hp⟩ : ∃ p, p = ps.getD k [] := ⟨_, rfl⟩
      have hp256 : Hid (∀ x ∈ p, x < 256) := Lib.hid (by
        rw [hp, List.getD_eq_getElem?_getD, List.getElem?_eq_getElem (by rw [Hl.out]; exact hkn)]
        exact Hb.out _ (List.getElem_mem _))
      have hpre : Hid (∀ x ∈ (ps.take k).flatten, x < 256) := Lib.hid (mem_flatten_lt (fun q hq => Hb.out q (List.mem_of_mem_take hq)))
      rw [← hp] at hm hpc
      have Hp := Lib.hid hp; clear hp
      have Hm := Lib.hid hm; clear hm
      clear hc
      go_wp2
      go_loop [3, 16] (fun c i => ∃ j : Nat, j ≤ m ∧ i = .int .i64 j ∧ c = .int .u32 (creg ((ps.take k).flatten ++ p.take j) : Nat)) (fun _ i => m - (intOf i).toNat)
      case atStart => exact ⟨0, Nat.zero_le _, rfl, by simp⟩
      case round =>
        obtain ⟨j, hj, rfl, rfl⟩ := hrel
        by_cases hjm : j < m
        · obtain ⟨b2, o2, rfl, hb2, hc2⟩ := hpc j hjm
          obtain ⟨x, hx⟩ : ∃ x, x = p.getD j 0 := ⟨_, rfl⟩
          have hx256 : x < 256 := by
            rw [hx, List.getD_eq_getElem?_getD, List.getElem?_eq_getElem (by rw [Hm.out]; exact hjm)]
            exact hp256.out _ (List.getElem_mem _)
          rw [u8c, ← hx] at hc2
          obtain ⟨r, hr⟩ : ∃ r, r = creg ((ps.take k).flatten ++ p.take j) := ⟨_, rfl⟩
          have hr2 : r < 4294967296 := by
            rw [hr]; exact creg_lt _ (fun y hy => by
              rcases List.mem_append.1 hy with h | h
              · exact hpre.out y h
              · exact hp256.out y (List.mem_of_mem_take h))
          have hnext : Hid (creg ((ps.take k).flatten ++ p.take (j + 1)) = cadd r x) := Lib.hid (by
            rw [take_snoc' p j (by rw [Hm.out]; exact hjm), ← List.append_assoc, creg_snoc, hr, hx])
          rw [← hr]
          clear hr hx hpc
          go_wp2_with (go_at_call 14; refine (add_n r x _ hr2 hx256).mono ?_; rintro e w' ⟨rfl, rfl⟩)
          go_round
          case rel => exact ⟨j + 1, by omega, by go_num, by rw [hnext.out]⟩
          case measure => simp [intOf]; omega
        · go_wp2
          go_round
          case rel =>
            refine ⟨k + 1, by omega, by go_num, ?_⟩
            rw [flatten_take ps k (by rw [Hl.out]; exact hkn), ← Hp.out]
            have e : p.take j = p := List.take_of_length_le (by rw [Hm.out]; omega)
            rw [e]
          case measure => simp [intOf]; omega
    · obtain rfl : k = n := by omega
      have hall : (ps.take k).flatten = ps.flatten := by rw [List.take_of_length_le (by rw [Hl.out]; exact Nat.le_refl _)]
      have hx := bits_xor_u32 (creg ps.flatten) 4294967295 (creg_lt _ (mem_flatten_lt Hb.out)) (by decide)
      rw [hall]
      have Hx := Lib.hid hx; clear hx
      go_wp2
      go_ret
      refine ⟨?_, rfl⟩
      show Ending.returned (.int .u32 (bits .xor .u32 (creg ps.flatten : Nat) 4294967295)) = _
      rw [show (4294967295 : Int) = ((4294967295 : Nat) : Int) from rfl, Hx.out]; rfl
end Go.Proofs.Ytpcfelccanmggaa
