/- Chapter 18: the walk over page.levels. -/
import Derived.Test.YtebmbkbnngeabaaGreatPgJ
set_option linter.unusedSimpArgs false
namespace Go.Proofs.YtebmbkbnngeabaaGreat
open Go.RowKit
set_option linter.unusedVariables false
def levsOk (R D : Nat) (rows : Int) (r d : List Int) : Bool := topB R r && topB D d && decide (r.getD 0 0 = 0) && decide ((cntI 0 r : Int) = rows)
def lfA (l : Lf) : Value := .agg #[.int .i64 (l.field : Nat), .int .i64 (l.r : Nat), .int .i64 (l.d : Nat), .int .i64 (l.kind : Nat)]
theorem four_lf {w : World} {g T : Nat} {a b c d : Value} (h : w.heap[g]? = some (.cells #[a, b, c, d] T)) :
 w.cell? ⟨g, 0, none⟩ = some a ∧ w.cell? ⟨g, 1, none⟩ = some b ∧ w.cell? ⟨g, 2, none⟩ = some c ∧ w.cell? ⟨g, 3, none⟩ = some d := by
 refine ⟨?_, ?_, ?_, ?_⟩ <;> simp [World.cell?, h]
set_option maxHeartbeats 4000000 in
set_option maxRecDepth 100000 in
theorem plevels_any (lf : Lf) (p : Pg) (aoR : Option Addr) (n cR : Nat) (r : List Int) (aoD : Option Addr) (cD : Nat) (d : List Int) (w : World) (hp : OkPg p) (h0 : 0 < n) (hn : n ≤ 1000000) (hlr : r.length = n) (hld : d.length = n)
 (hcr : CellsAt w w.heap.size aoR n (i64c r)) (hcd : CellsAt w w.heap.size aoD n (i64c d)) :
 Calls Tryz.prog 27 #[lfA lf, pgV p, .slice aoR n cR, .slice aoD n cD] w (SaysB (levsOk lf.r lf.d p.rows r d) w) := by
 obtain ⟨rows, cells, enc, rl, dl, vl, crc⟩ := p
 obtain ⟨fi, R, D, kd⟩ := lf
 have hrows := hp.rows
 simp only [in64] at hrows
 unfold lfA pgV
 simp only
 obtain ⟨w1, hw1⟩ : ∃ x, x = (w.alloc (.cells #[.int .i64 (fi : Nat), .int .i64 (R : Nat), .int .i64 (D : Nat), .int .i64 (kd : Nat)] 30)).alloc (.cells #[.int .i64 rows, .int .i64 cells, .int .i64 enc, .int .i64 rl, .int .i64 dl, .int .i64 vl, .int .u32 (crc : Nat)] 27) := ⟨_, rfl⟩
 have hb1 : Below w.heap.size w w1 := by rw [hw1]; exact balloc (balloc (Below.refl _ _) _) _
 have hk1 : w1.heap[w.heap.size]? = some (.cells #[.int .i64 (fi : Nat), .int .i64 (R : Nat), .int .i64 (D : Nat), .int .i64 (kd : Nat)] 30) := by
  rw [hw1, heap_alloc_old _ _ (by simp)]; exact heap_alloc_new w _
 have hk2 : w1.heap[w.heap.size + 1]? = some (.cells #[.int .i64 rows, .int .i64 cells, .int .i64 enc, .int .i64 rl, .int .i64 dl, .int .i64 vl, .int .u32 (crc : Nat)] 27) := by
  have := heap_alloc_new (w.alloc (.cells #[.int .i64 (fi : Nat), .int .i64 (R : Nat), .int .i64 (D : Nat), .int .i64 (kd : Nat)] 30)) (.cells #[.int .i64 rows, .int .i64 cells, .int .i64 enc, .int .i64 rl, .int .i64 dl, .int .i64 vl, .int .u32 (crc : Nat)] 27)
  rw [hw1]; simpa using this
 obtain ⟨l0, l1, l2, l3⟩ := four_lf hk1
 obtain ⟨c0, -⟩ := seven_cells hk2
 have HB := Lib.hid hb1
 have Hcr := Lib.hid (hcr.at hb1); have Hcd := Lib.hid (hcd.at hb1)
 have Hlr := Lib.hid hlr; have Hld := Lib.hid hld
 have hrb : -9223372036854775808 ≤ rows ∧ rows ≤ 9223372036854775807 := hrows
 clear hb1 hk1 hk2 hcr hcd hlr hld hp hrows l0 l3
 go_enter Tryz.func27, Tryz.ntmps27
 go_upto_region 1 with fail
 rw [← hw1]
 clear hw1
 go_wp2
 go_loopw [9, 13] (fun cv iv wr => ∃ k c m : Nat, k ≤ n ∧ iv = .int .i64 (k : Nat) ∧ cv = .int .i64 (c : Nat) ∧ c ≤ k ∧ Hid (c = cntI 0 (r.take k)) ∧ Hid (topB R (r.take k) = true ∧ topB D (d.take k) = true) ∧ wr = w1.drewN m) (fun _ iv _ => n - (intOf iv).toNat)
 case atStart => exact ⟨0, 0, 0, Nat.zero_le _, rfl, rfl, Nat.le_refl _, Lib.hid rfl, Lib.hid ⟨rfl, rfl⟩, rfl⟩
 case round =>
  obtain ⟨k, c, m, hk, rfl, rfl, hck, HK, HT, rfl⟩ := hrel
  by_cases hkn : k < n
  · obtain ⟨b1, o1, rfl, -, x0⟩ := Hcr.out k hkn
    obtain ⟨b2, o2, rfl, -, y0⟩ := Hcd.out k hkn
    obtain ⟨x, hx⟩ : ∃ x, x = r.getD k 0 := ⟨_, rfl⟩
    obtain ⟨y, hy⟩ : ∃ y, y = d.getD k 0 := ⟨_, rfl⟩
    rw [i64c, ← hx] at x0
    rw [i64c, ← hy] at y0
    have e1 : (k : Int) < (n : Int) := by omega
    have e2 : (0 : Int) ≤ (k : Int) := by omega
    have t1 := topB_take R r k (by rw [Hlr.out]; exact hkn)
    have t2 := topB_take D d k (by rw [Hld.out]; exact hkn)
    have t3 := cntI_take 0 r k (by rw [Hlr.out]; exact hkn)
    rw [HT.out.1, Bool.true_and, ← hx] at t1
    rw [HT.out.2, Bool.true_and, ← hy] at t2
    rw [← hx, ← HK.out] at t3
    have b1 := topB_bad R r k (by rw [Hlr.out]; exact hkn)
    have b2 := topB_bad D d k (by rw [Hld.out]; exact hkn)
    rw [← hx] at b1
    rw [← hy] at b2
    have T1 := Lib.hid t1; have T2 := Lib.hid t2; have T3 := Lib.hid t3; have B1 := Lib.hid b1; have B2 := Lib.hid b2
    clear t1 t2 t3 b1 b2 hx hy
    by_cases hxR : (R : Int) < x
    · have HF : Hid (levsOk R D rows r d = false) := Lib.hid (by unfold levsOk; rw [B1.out hxR]; rfl)
      go_wp2
      go_quiet (fail)
      go_wp2
      go_ret
      exact ⟨by rw [HF.out]; rfl, below_drewN (below_drewN HB.out _) _⟩
    · by_cases hyD : (D : Int) < y
      · have HF : Hid (levsOk R D rows r d = false) := Lib.hid (by unfold levsOk; rw [B2.out hyD, Bool.and_false]; rfl)
        go_wp2
        go_quiet (fail)
        go_wp2
        go_ret
        exact ⟨by rw [HF.out]; rfl, below_drewN (below_drewN HB.out _) _⟩
      · have HT2 : Hid (topB R (r.take (k + 1)) = true ∧ topB D (d.take (k + 1)) = true) := Lib.hid ⟨by rw [T1.out]; exact decide_eq_true (by omega), by rw [T2.out]; exact decide_eq_true (by omega)⟩
        by_cases hx0 : x = 0
        · have HK2 : Hid (c + 1 = cntI 0 (r.take (k + 1))) := Lib.hid (by rw [T3.out, if_pos hx0])
          subst hx0
          go_wp2
          go_quiet (fail)
          go_wp2
          go_roundw
          case rel => exact ⟨k + 1, c + 1, m + nq, by omega, by go_num, by go_num, by omega, HK2, HT2, rfl⟩
          case measure => simp [intOf]; omega
        · have HK2 : Hid (c = cntI 0 (r.take (k + 1))) := Lib.hid (by rw [T3.out, if_neg hx0]; rfl)
          have f1 : (x == 0) = false := by rw [beq_eq_false_iff_ne]; exact hx0
          go_wp2
          go_quiet (fail)
          go_wp2
          go_roundw
          case rel => exact ⟨k + 1, c, m + nq, by omega, by go_num, rfl, by omega, HK2, HT2, rfl⟩
          case measure => simp [intOf]; omega
  · obtain rfl : k = n := by omega
    have e0 : ¬ (k : Int) < (k : Int) := by omega
    have e1 : (0 : Int) < (k : Int) := by omega
    have hkr : c = cntI 0 r ∧ topB R r = true ∧ topB D d = true := by
     have h1 := HK.out; have h2 := HT.out
     rw [List.take_of_length_le (by rw [Hlr.out]; exact Nat.le_refl _)] at h1 h2
     rw [List.take_of_length_le (by rw [Hld.out]; exact Nat.le_refl _)] at h2
     exact ⟨h1, h2⟩
    obtain ⟨b1, o1, rfl, -, x0⟩ := Hcr.out 0 h0
    obtain ⟨x, hx⟩ : ∃ x, x = r.getD 0 0 := ⟨_, rfl⟩
    rw [i64c, ← hx, Nat.add_zero] at x0
    have HE : Hid (levsOk R D rows r d = (decide (x = 0) && decide ((c : Int) = rows))) := Lib.hid (by unfold levsOk; rw [hkr.2.1, hkr.2.2, ← hx, ← hkr.1]; simp)
    clear hkr hx
    by_cases hx0 : x = 0
    · subst hx0
      by_cases hcr : (c : Int) = rows
      · have HF : Hid (levsOk R D rows r d = true) := Lib.hid (by rw [HE.out, decide_eq_true rfl, decide_eq_true hcr]; rfl)
        subst hcr
        go_wp2
        go_ret
        exact ⟨by rw [HF.out]; rfl, below_drewN HB.out _⟩
      · have HF : Hid (levsOk R D rows r d = false) := Lib.hid (by rw [HE.out, decide_eq_false hcr, Bool.and_false])
        have f1 : ((c : Int) == rows) = false := by rw [beq_eq_false_iff_ne]; exact hcr
        go_wp2
        go_ret
        exact ⟨by rw [HF.out]; rfl, below_drewN HB.out _⟩
    · have HF : Hid (levsOk R D rows r d = false) := Lib.hid (by rw [HE.out, decide_eq_false hx0, Bool.false_and])
      have f1 : (x == 0) = false := by rw [beq_eq_false_iff_ne]; exact hx0
      go_wp2
      go_ret
      exact ⟨by rw [HF.out]; rfl, below_drewN HB.out _⟩
end Go.Proofs.YtebmbkbnngeabaaGreat
