/- Chapter 10: the law LevelMany. -/
import Derived.Test.YtopmcffjpbnlnaaLevK
import Derived.Test.YtopmcffjpbnlnaaRow
namespace Go.Proofs.Ytopmcffjpbnlnaa
open Go.RowKit
set_option linter.unusedVariables false

theorem GaveLev.err {w w' : World} {c : Nat} {e : Ending} (h : GaveLev w ([], c) e w') : ∃ ao cap, e = .returned (.tuple #[.slice ao 0 cap, .int .i64 (c : Nat)]) ∧ Below w.heap.size w w' := by
  obtain ⟨v, rfl, ho, hb⟩ := h
  obtain ⟨ao, cap, rfl, -, -⟩ := own_cells ho
  exact ⟨ao, cap, rfl, hb⟩

set_option maxHeartbeats 2000000 in
set_option maxRecDepth 100000 in
theorem levelMany_walk (a0 a1 : Int) (a2 : Option Addr) (len2 cap2 : Nat) (z2 : List Int) (w : World) (w0 : (Lit.int .i64 a0).wf = true) (w1 : (Lit.int .i64 a1).wf = true) (w2 : IsRow .u8 w a2 len2 cap2 z2) :
    Calls Try.prog 8 #[.int .i64 a0, .int .i64 a1, .slice a2 len2 cap2] w fun e w' => e = .returned (.bool true) ∧ Below w.heap.size w w' := by
  obtain ⟨ha1, ha2⟩ := bounds_i64 w0
  obtain ⟨hb1, hb2⟩ := bounds_i64 w1
  by_cases c0 : 20 < len2
  · go_enter Try.func8, Try.ntmps8
    go_wp2_with (go_at_call 10; refine (known_any _).mono ?_; rintro e x1 ⟨rfl, hx1⟩)
    go_ret
    exact ⟨rfl, hx1⟩
  have b0 : decide ((20 : Int) < (len2 : Int)) = false := decide_eq_false (by omega)
  obtain ⟨k9, hk9, hk9l⟩ := modN' a0 999 (by decide)
  obtain ⟨k1, hk1, hk1l⟩ := modN' a1 17 (by decide)
  obtain ⟨m9, hm9, hm9l⟩ := modN' a0 99 (by decide)
  obtain ⟨m1, hm1, hm1l⟩ := modN' a1 99 (by decide)
  have Hk9 : Hid (a0 % 999 = (k9 : Int)) := Lib.hid hk9
  have Hk1 : Hid (a1 % 17 = (k1 : Int)) := Lib.hid hk1
  have Hm9 : Hid (a0 % 99 = (m9 : Int)) := Lib.hid hm9
  have Hm1 : Hid (a1 % 99 = (m1 : Int)) := Lib.hid hm1
  clear hk9 hk1 hm9 hm1
  go_enter Try.func8, Try.ntmps8
  go_wp2_with (go_at_call 10; refine (known_any _).mono ?_; rintro e x1 ⟨rfl, hx1⟩)
  refine (within_any _ _ _ (by omega) (by omega) ha1 ha2).mono ?_; rw [Hk9.out]; rintro e x2 ⟨rfl, rfl⟩
  go_wp2_with fail
  refine (within_any _ _ _ (by omega) (by omega) hb1 hb2).mono ?_; rw [Hk1.out]; rintro e x2 ⟨rfl, rfl⟩
  go_wp2_with fail
  refine (ldec_arg a2 len2 cap2 (4001 + (k9 : Int)) (k1 : Int) _ (by omega)).mono ?_
  intro e x2 hg
  obtain ⟨aoA, capA, rfl, hx2⟩ := hg.err
  have hx2 := bmore hx1 hx2
  clear hg
  go_wp2_with fail
  refine (within_any _ _ _ (by omega) (by omega) ha1 ha2).mono ?_; rw [Hk9.out]; rintro e x3 ⟨rfl, rfl⟩
  go_wp2_with fail
  refine (within_any _ _ _ (by omega) (by omega) hb1 hb2).mono ?_; rw [Hk1.out]; rintro e x3 ⟨rfl, rfl⟩
  go_wp2_with fail
  refine (ldec_arg a2 len2 cap2 (-1 - (k9 : Int)) (k1 : Int) _ (by omega)).mono ?_
  intro e x3 hg
  obtain ⟨aoB, capB, rfl, hx3⟩ := hg.err
  have hx3 := bmore hx2 hx3
  clear hg
  go_wp2_with fail
  refine (within_any _ _ _ (by omega) (by omega) ha1 ha2).mono ?_; rw [Hm9.out]; rintro e x4 ⟨rfl, rfl⟩
  go_wp2_with fail
  refine (within_any _ _ _ (by omega) (by omega) hb1 hb2).mono ?_; rw [Hm1.out]; rintro e x4 ⟨rfl, rfl⟩
  go_wp2_with fail
  refine (ldec_arg a2 len2 cap2 (m9 : Int) (17 + (m1 : Int)) _ (by omega)).mono ?_
  intro e x4 hg
  obtain ⟨aoC, capC, rfl, hx4⟩ := hg.err
  have hx4 := bmore hx3 hx4
  clear hg
  go_wp2_with fail
  refine (within_any _ _ _ (by omega) (by omega) ha1 ha2).mono ?_; rw [Hm9.out]; rintro e x5 ⟨rfl, rfl⟩
  go_wp2_with fail
  refine (within_any _ _ _ (by omega) (by omega) hb1 hb2).mono ?_; rw [Hm1.out]; rintro e x5 ⟨rfl, rfl⟩
  go_wp2_with fail
  refine (ldec_arg a2 len2 cap2 (m9 : Int) (-1 - (m1 : Int)) _ (by omega)).mono ?_
  intro e x5 hg
  obtain ⟨aoD, capD, rfl, hx5⟩ := hg.err
  have hx5 := bmore hx4 hx5
  clear hg
  go_wp2
  go_ret
  exact ⟨rfl, hx5⟩
end Go.Proofs.Ytopmcffjpbnlnaa
