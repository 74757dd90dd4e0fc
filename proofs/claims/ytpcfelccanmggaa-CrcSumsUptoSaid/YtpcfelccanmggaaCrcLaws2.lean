/- Chapter 4's laws: the walks over CrcBytes, CrcEnds. -/
import Derived.Test.YtpcfelccanmggaaCrcLaws
namespace Go.Proofs.Ytpcfelccanmggaa
open Go.RowKit
set_option linter.unusedVariables false

set_option maxHeartbeats 2000000 in
set_option maxRecDepth 100000 in
theorem crcBytes_walk (a0 : Option Addr) (len0 cap0 : Nat) (z0 : List Int) (a1 a2 : Int) (w : World) (w0 : IsRow .u8 w a0 len0 cap0 z0) (w1 : (Lit.int .i64 a1).wf = true) (w2 : (Lit.int .u8 a2).wf = true) :
    Calls Try.prog 5 #[.slice a0 len0 cap0, .int .i64 a1, .int .u8 a2] w fun e w' => e = .returned (.bool true) ∧ Below w.heap.size w w' := by
  obtain ⟨b, hl, hb, hc, hn, hlen⟩ := w0.u8
  obtain ⟨ha1, ha2⟩ := bounds_i64 w1
  obtain ⟨hm1, hm2⟩ := bounds_u8 w2
  obtain ⟨x, rfl⟩ : ∃ m : Nat, a2 = m := ⟨a2.toNat, by omega⟩
  have hx256 : x < 256 := by omega
  have Hl := Lib.hid hl; clear hl
  have Hb := Lib.hid hb; clear hb
  clear hm1 hm2 w2
  by_cases h0 : len0 = 0
  · subst h0
    go_enter Try.func5, Try.ntmps5
    go_wp2_with (go_at_call 10; refine (known_any _).mono ?_; rintro e x1 ⟨rfl, hx1⟩)
    go_ret
    exact ⟨rfl, hx1⟩
  have h00 : ((len0 : Int) == 0) = false := by rw [beq_eq_false_iff_ne]; omega
  have h0p : 0 < len0 := by omega
  clear h0
  by_cases h300 : 300 < len0
  · go_enter Try.func5, Try.ntmps5
    go_wp2_with (go_at_call 10; refine (known_any _).mono ?_; rintro e x1 ⟨rfl, hx1⟩)
    go_ret
    exact ⟨rfl, hx1⟩
  by_cases hm0 : x = 0
  · subst hm0
    go_enter Try.func5, Try.ntmps5
    go_wp2_with (go_at_call 10; refine (known_any _).mono ?_; rintro e x1 ⟨rfl, hx1⟩)
    go_ret
    exact ⟨rfl, hx1⟩
  have hmz : ((x : Int) == 0) = false := by rw [beq_eq_false_iff_ne]; omega
  have k1 : 0 ≤ a1 % (len0 : Int) := Int.emod_nonneg _ (by omega)
  have k2 : a1 % (len0 : Int) < (len0 : Int) := Int.emod_lt_of_pos _ (by omega)
  obtain ⟨k, hk⟩ : ∃ k : Nat, a1 % (len0 : Int) = k := ⟨_, (Int.toNat_of_nonneg k1).symm⟩
  have hkl : k < len0 := by omega
  have Hk := Lib.hid hk; clear hk k1 k2
  have Hm0 := Lib.hid hm0; clear hm0
  go_enter Try.func5, Try.ntmps5
  go_wp2_with (first
    | (go_at_call 10; refine (known_any _).mono ?_; rintro e x1 ⟨rfl, hx1⟩)
    | (at_builtin; refine wpList_append_clone1 sl_u8 rfl (.tmp 22) (.tmp 23) rfl rfl rfl ((hc.at hx1).alloc (Nat.le_refl _) _) hn (fun _ _ => rfl) (by unfold maxLen; omega) (by omega) ?_))
  intro aoC capC x3 hcC hbC hown
  obtain ⟨g, rfl, hg, hown⟩ := hown.pos (by omega)
  rw [range_u8c b len0 Hl.out] at hown
  have hx3 : Below w.heap.size w x3 := (balloc hx1 _).trans (hbC.mono (by have := hx1.size; omega))
  have hgw : w.heap.size ≤ g := Nat.le_trans (balloc hx1 _).size hg
  have hown := own_base hown (balloc hx1 _).size
  clear hcC hbC hg
  obtain ⟨old, hold⟩ : ∃ old, Hid (old = b.getD k 0) := ⟨_, Lib.hid rfl⟩
  have hold8 : old < 256 := by rw [hold.out]; exact getD_lt Hb.out _
  have hcell : x3.cell? ⟨g, k, none⟩ = some (.int .u8 (old : Nat)) := by rw [hold.out]; exact cell_u8 hown _ hkl
  have hfr := hown.frozenAt k
  go_wp2_with fail
  refine (within_any _ _ _ (by omega) (by omega) ha1 ha2).mono ?_; rw [Hk.out]; rintro e x2 ⟨rfl, rfl⟩
  obtain ⟨new, hnew⟩ : ∃ new, Hid (new = (old + x) % 256) := ⟨_, Lib.hid rfl⟩
  have hnew8 : new < 256 := by rw [hnew.out]; omega
  have hadd : ((old : Int) + x) % 256 = (new : Nat) := by rw [hnew.out]; omega
  have hne : old ^^^ new ≠ 0 := fun h => by
    have := xor_eq_zero h
    have h2 := hnew.out; have h3 := Hm0.out; omega
  obtain ⟨cl, hcl⟩ : ∃ cl, Hid (cl = b.set k new) := ⟨_, Lib.hid rfl⟩
  have hcll : Hid (cl.length = len0) := Lib.hid (by rw [hcl.out, List.length_set]; exact Hl.out)
  have hcl256 : Hid (∀ y ∈ cl, y < 256) := Lib.hid (by rw [hcl.out]; exact set_lt Hb.out hnew8)
  have hbig : big cl = big b ^^^ ((old ^^^ new) <<< (8 * k)) := by
    rw [hcl.out, big_set b k new (by rw [Hl.out]; exact hkl)]
    congr 2
    rw [hold.out, List.getD_eq_getElem?_getD, List.getElem?_eq_getElem (by rw [Hl.out]; exact hkl)]; rfl
  have hcs : csum b ≠ csum cl := csum_burst b cl (8 * k) _ (by rw [hcll.out, Hl.out]) (by rw [Hl.out]; omega) (by have := xor_lt8 hold8 hnew8; omega) hne hbig
  have hneq : ((csum b : Int) != (csum cl : Int)) = true := by rw [bne_iff_ne]; intro h; exact hcs (Int.ofNat.inj h)
  have hs := stored_u8 hown k (x := (new : Int)) rfl
  rw [← hcl.out] at hs
  have hbs : Below w.heap.size w (x3.setCell ⟨g, k, none⟩ (.int .u8 (new : Int))) := hx3.setCell (by exact hgw) _
  clear hne hbig hcs hown
  obtain ⟨W, hW⟩ : ∃ W, W = x3.setCell ⟨g, k, none⟩ (.int .u8 (new : Int)) := ⟨_, rfl⟩
  have hWs : x3.heap.size = W.heap.size := by rw [hW]; simp
  rw [← hW] at hs hbs
  have HW := Lib.hid hW; clear hW
  have HWs := Lib.hid hWs; clear hWs
  obtain ⟨ao', cap', hv, hcC, -⟩ := own_u8 hs
  simp only [Value.slice.injEq, true_and] at hv
  obtain ⟨rfl, rfl⟩ := hv
  clear hs
  go_wp2_with fail
  rw [← HW.out]
  refine (sum_one _ b _ Hb.out (by exact one_part HWs.out Hl.out hlen (hc.at hbs)) _).mono ?_
  rintro e x4 ⟨rfl, rfl⟩
  go_wp2_with fail
  refine (sum_one _ cl _ hcl256.out (by exact one_part (by simp) hcll.out hlen ((hcC.alloc (Nat.le_refl _) _).mono (by simp))) _).mono ?_
  rintro e x4 ⟨rfl, rfl⟩
  go_wp2_with fail
  refine (sum_one _ cl _ hcl256.out (by exact one_part (by simp) hcll.out hlen (((hcC.alloc (Nat.le_refl _) _).alloc (by simp) _).mono (by simp; omega))) _).mono ?_
  rintro e x4 ⟨rfl, rfl⟩
  go_wp2_with fail
  refine (rsum_n _ _ _ cl _ hcll.out hlen hcl256.out ((((hcC.alloc (Nat.le_refl _) _).alloc (by simp) _).alloc (by simp; omega) _).mono (by simp; omega))).mono ?_
  rintro e x4 ⟨rfl, rfl⟩
  go_wp2
  go_ret
  exact ⟨rfl, balloc (balloc (balloc hbs _) _) _⟩

theorem byte_of (s k : Nat) : ((s : Int) / 2 ^ k) % 256 = ((s / 2 ^ k % 256 : Nat) : Int) := by simp
/-- A sum's four bytes. -/
def sumBytes (s : Nat) : List Nat := [s % 256, s / 256 % 256, s / 65536 % 256, s / 16777216 % 256]
theorem big_sumBytes (s : Nat) (hs : s < 4294967296) : big (sumBytes s) = s := by
  apply Nat.eq_of_testBit_eq
  intro i
  have e : ∀ k, s / 2 ^ k % 2 ^ 8 = (s >>> k) % 2 ^ 8 := fun k => by rw [Nat.shiftRight_eq_div_pow]
  have h1 : s / 256 % 256 = (s >>> 8) % 2 ^ 8 := e 8
  have h2 : s / 65536 % 256 = (s >>> 16) % 2 ^ 8 := e 16
  have h3 : s / 16777216 % 256 = (s >>> 24) % 2 ^ 8 := e 24
  have h0 : s % 256 = s % 2 ^ 8 := rfl
  simp only [sumBytes, big, h0, h1, h2, h3, Nat.testBit_xor, Nat.testBit_shiftLeft, Nat.testBit_mod_two_pow, Nat.testBit_shiftRight, Nat.zero_testBit]
  by_cases c1 : i < 8
  · have a1 : ¬ i ≥ 8 := by omega
    simp [c1, a1]
  by_cases c2 : i < 16
  · have a1 : i ≥ 8 := by omega
    have a2 : i - 8 < 8 := by omega
    have a3 : ¬ i - 8 ≥ 8 := by omega
    simp [c1, a1, a2, a3, show 8 + (i - 8) = i by omega]
  by_cases c3 : i < 24
  · have a1 : i ≥ 8 := by omega
    have a2 : ¬ i - 8 < 8 := by omega
    have a3 : i - 8 ≥ 8 := by omega
    have a4 : i - 8 - 8 < 8 := by omega
    have a5 : ¬ i - 8 - 8 ≥ 8 := by omega
    simp [c1, a1, a2, a3, a4, a5, show 16 + (i - 8 - 8) = i by omega]
  by_cases c4 : i < 32
  · have a1 : i ≥ 8 := by omega
    have a2 : ¬ i - 8 < 8 := by omega
    have a3 : i - 8 ≥ 8 := by omega
    have a4 : ¬ i - 8 - 8 < 8 := by omega
    have a5 : i - 8 - 8 ≥ 8 := by omega
    have a6 : i - 8 - 8 - 8 < 8 := by omega
    simp [c1, a1, a2, a3, a4, a5, a6, show 24 + (i - 8 - 8 - 8) = i by omega]
  · have a2 : ¬ i - 8 < 8 := by omega
    have a4 : ¬ i - 8 - 8 < 8 := by omega
    have a6 : ¬ i - 8 - 8 - 8 < 8 := by omega
    have hz : s.testBit i = false := Nat.testBit_lt_two_pow (Nat.lt_of_lt_of_le hs (Nat.le_trans (by decide) (Nat.pow_le_pow_right (by decide) (show 32 ≤ i by omega))))
    simp [c1, a2, a4, a6, hz]

/-- Two parts: slices of bytes in a new block of two cells. -/
theorem two_parts {w : World} {a a2 : Option Addr} {m c m2 c2 k : Nat} {p p2 : List Nat} {E : TypeId} (hk : k = w.heap.size) (hl : p.length = m) (hm : m ≤ 9223372036854775807) (hc : CellsAt w w.heap.size a m (u8c p))
    (hl2 : p2.length = m2) (hm2 : m2 ≤ 9223372036854775807) (hc2 : CellsAt w w.heap.size a2 m2 (u8c p2)) :
    PartsAt (w.alloc (.cells #[.slice a m c, .slice a2 m2 c2] E)) (w.alloc (.cells #[.slice a m c, .slice a2 m2 c2] E)).heap.size (some ⟨k, 0, none⟩) 2 [p, p2] := by
  subst hk
  refine ⟨rfl, fun i hi => ?_⟩
  have hcell := cells_alloc w #[.slice a m c, .slice a2 m2 c2] E 2 (fun i => if i = 0 then .slice a m c else .slice a2 m2 c2) (fun i hi => by match i, hi with | 0, _ => rfl | 1, _ => rfl)
  match i, hi with
  | 0, _ =>
    obtain ⟨b, off, e, hb, h⟩ := hcell 0 (by decide)
    exact ⟨b, off, e, hb, a, m, c, h, hl, hm, (hc.alloc (Nat.le_refl _) _).mono (by simp)⟩
  | 1, _ =>
    obtain ⟨b, off, e, hb, h⟩ := hcell 1 (by decide)
    exact ⟨b, off, e, hb, a2, m2, c2, h, hl2, hm2, (hc2.alloc (Nat.le_refl _) _).mono (by simp)⟩

set_option maxHeartbeats 2000000 in
set_option maxRecDepth 100000 in
theorem crcEnds_walk (a0 : Option Addr) (len0 cap0 : Nat) (z0 : List Int) (w : World) (w0 : IsRow .u8 w a0 len0 cap0 z0) :
    Calls Try.prog 7 #[.slice a0 len0 cap0] w fun e w' => e = .returned (.bool true) ∧ Below w.heap.size w w' := by
  obtain ⟨b, hl, hb, hc, hn, hlen⟩ := w0.u8
  have Hl := Lib.hid hl; clear hl
  have Hb := Lib.hid hb; clear hb
  by_cases h300 : 300 < len0
  · go_enter Try.func7, Try.ntmps7
    go_wp2_with (go_at_call 10; refine (known_any _).mono ?_; rintro e x1 ⟨rfl, hx1⟩)
    go_ret
    exact ⟨rfl, hx1⟩
  obtain ⟨s, hs⟩ : ∃ s, Hid (s = csum b) := ⟨_, Lib.hid rfl⟩
  have hs32 : s < 4294967296 := by rw [hs.out]; exact csum_lt b Hb.out
  go_enter Try.func7, Try.ntmps7
  go_wp2_with (go_at_call 10; refine (known_any _).mono ?_; rintro e x1 ⟨rfl, hx1⟩)
  refine (sum_one _ b _ Hb.out (by exact one_part rfl Hl.out hlen (hc.at hx1)) _).mono ?_
  rw [← hs.out]
  rintro e x4 ⟨rfl, rfl⟩
  go_wp2_with fail
  have ht : CellsAt ((x1.alloc (.cells #[.slice a0 len0 cap0] 24)).alloc (.cells #[.int .u8 ((s : Int) % 256), .int .u8 ((s : Int) / 256 % 256), .int .u8 ((s : Int) / 65536 % 256), .int .u8 ((s : Int) / 16777216)] 5))
      ((x1.alloc (.cells #[.slice a0 len0 cap0] 24)).alloc (.cells #[.int .u8 ((s : Int) % 256), .int .u8 ((s : Int) / 256 % 256), .int .u8 ((s : Int) / 65536 % 256), .int .u8 ((s : Int) / 16777216)] 5)).heap.size (some ⟨x1.heap.size + 1, 0, none⟩) 4 (u8c (sumBytes s)) := by
    have h := cells_alloc (x1.alloc (.cells #[.slice a0 len0 cap0] 24)) #[.int .u8 ((s : Int) % 256), .int .u8 ((s : Int) / 256 % 256), .int .u8 ((s : Int) / 65536 % 256), .int .u8 ((s : Int) / 16777216)] 5 4 (u8c (sumBytes s)) (fun i hi => by
      match i, hi with
      | 0, _ => exact congrArg (fun n => some (Value.int .u8 n)) (show (s : Int) % 256 = ((s % 256 : Nat) : Int) by omega)
      | 1, _ => exact congrArg (fun n => some (Value.int .u8 n)) (show (s : Int) / 256 % 256 = ((s / 256 % 256 : Nat) : Int) by omega)
      | 2, _ => exact congrArg (fun n => some (Value.int .u8 n)) (show (s : Int) / 65536 % 256 = ((s / 65536 % 256 : Nat) : Int) by omega)
      | 3, _ => exact congrArg (fun n => some (Value.int .u8 n)) (show (s : Int) / 16777216 = ((s / 16777216 % 256 : Nat) : Int) by omega))
    simpa using h
  have hsb : ∀ x ∈ sumBytes s, x < 256 := by
    intro x hx
    simp only [sumBytes, List.mem_cons, List.not_mem_nil, or_false] at hx
    omega
  have hsum : csum (b ++ sumBytes s) = 558161692 := csum_ends b (sumBytes s) Hb.out rfl (by rw [big_sumBytes s hs32, hs.out])
  refine (sum_n _ 2 _ [b, sumBytes s] _ (by decide) (by intro q hq; rcases List.mem_cons.1 hq with rfl | hq; exact Hb.out; rw [List.mem_singleton] at hq; subst hq; exact hsb) (by exact two_parts (by simp) Hl.out hlen ((((hc.at hx1).alloc (Nat.le_refl _) _).alloc (by simp) _).mono (by simp; omega)) rfl (by decide) ht)).mono ?_
  rw [show [b, sumBytes s].flatten = b ++ sumBytes s by simp, hsum]
  rintro e x4 ⟨rfl, rfl⟩
  go_wp2
  go_ret
  exact ⟨rfl, balloc (balloc (balloc hx1 _) _) _⟩
end Go.Proofs.Ytpcfelccanmggaa
