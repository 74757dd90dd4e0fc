/- Chapter 1: known, and the laws CursorCuts, CursorFails, CursorTwo. -/
import Derived.Test.YtbooofbgfihogaaCurPut
import Derived.Test.YtbooofbgfihogaaWithin
import Derived.Test.YtbooofbgfihogaaRow
namespace Go.Proofs.Ytbooofbgfihogaa
open Go.RowKit
set_option linter.unusedVariables false

set_option maxHeartbeats 1000000 in
theorem known_any (w : World) :
    Calls Try.prog 9 #[] w fun e w' => e = .returned (.bool true) ∧ Below w.heap.size w w' := by
  go_enter Try.func9, Try.ntmps9
  go_wp2_with fail
  refine (put_any none 0 0 [] 2 258 _ rfl CellsAt.zero (fun _ => rfl) (by decide) (by decide)).mono ?_
  rw [show putB [] 2 258 = [2, 1] by decide]
  rintro e w1 ⟨ao, cap, rfl, hc1, hn1, hr1, hx1⟩
  obtain ⟨b, off, rfl, -, hc2⟩ := hc1 0 (by decide)
  obtain ⟨b', off', e, -, hc3⟩ := hc1 1 (by decide)
  cases e
  rw [Nat.add_zero, show u8c [2, 1] 0 = .int .u8 2 from rfl] at hc2
  rw [show u8c [2, 1] 1 = .int .u8 1 from rfl] at hc3
  clear hc1 hr1 hn1
  go_wp2
  go_ret
  exact ⟨rfl, hx1⟩

set_option maxHeartbeats 4000000 in
set_option maxRecDepth 100000 in
theorem cursorCuts_walk (a0 : Option Addr) (len0 cap0 : Nat) (z0 : List Int) (a1 : Int)
    (w : World) (w0 : IsRow .u8 w a0 len0 cap0 z0) (w1 : (Lit.int .i64 a1).wf = true) :
    Calls Try.prog 8 #[.slice a0 len0 cap0, .int .i64 a1] w fun e w' => e = .returned (.bool true) ∧ Below w.heap.size w w' := by
  obtain ⟨l, hl, hb, hc, hn, hlen⟩ := w0.u8
  obtain ⟨ha1, ha2⟩ := bounds_i64 w1
  by_cases h7 : 7 < len0
  · go_enter Try.func8, Try.ntmps8
    go_wp2_with (go_at_call 9; refine (known_any _).mono ?_; rintro e x1 ⟨rfl, hx1⟩)
    go_ret
    exact ⟨rfl, hx1⟩
  have m1 : 0 ≤ a1 % (8 - (len0 : Int)) := Int.emod_nonneg _ (by omega)
  have m2 : a1 % (8 - (len0 : Int)) < 8 - (len0 : Int) := Int.emod_lt_of_pos _ (by omega)
  obtain ⟨k, hk⟩ : ∃ k : Nat, a1 % (8 - (len0 : Int)) = k := ⟨_, (Int.toNat_of_nonneg m1).symm⟩
  have hk8 : len0 + 1 + k ≤ 8 := by omega
  have hG : Hid (rdGet l 0 ((len0 : Int) + 1 + (k : Int)) = (0, [], 8)) := by
    unfold rdGet
    rw [if_neg (by omega)]
    unfold rdTake
    rw [if_pos (by omega)]
    rfl
  have Hk := Lib.hid hk; clear hk m1 m2
  have Hl := Lib.hid hl; clear hl
  have Hb := Lib.hid hb; clear hb
  go_enter Try.func8, Try.ntmps8
  go_wp2_with (go_at_call 9; refine (known_any _).mono ?_; rintro e x1 ⟨rfl, hx1⟩)
  refine (within_any _ _ _ (by omega) (by omega) ha1 ha2).mono ?_; rw [Hk.out]; rintro e x2 ⟨rfl, rfl⟩
  go_wp2_with fail
  refine (new_any _ _ _ l _ Hl.out (hc.at hx1) hn (by omega)).mono ?_
  rintro e x2 ⟨g, rfl, hg, hr2, hx2⟩
  have hx2 := bmore hx1 hx2
  have hgw : w.heap.size ≤ g := Nat.le_trans hx1.size hg
  clear hg
  go_wp2_with fail
  refine (get_any _ _ _ _ _ hr2 (by rw [Hl.out]; omega) Hb.out).mono ?_
  rw [hG.out]
  rintro e x3 ⟨rfl, hr3, hb3⟩
  have hx3 := hb3.below hx2 hgw hx2.size
  clear hr2 hb3 hx2
  go_wp2_with fail
  refine (end_any _ _ _ _ hr3).mono ?_
  rintro e x4 ⟨rfl, rfl⟩
  go_wp2_with fail
  refine (left_any _ _ _ _ hr3).mono ?_
  rintro e x4 ⟨rfl, rfl⟩
  go_wp2_with fail
  refine (rtake_any _ _ _ 1 _ hr3 (by decide)).mono ?_
  rw [show rdTake [] 8 1 = ([], [], 8) by decide]
  rintro e x4 ⟨ao4, cap4, rfl, hc4, hn4, -, hr4, hb4⟩
  have hx4 := hb4.below hx3 hgw hx3.size
  clear hr3 hb4 hx3 hc4 hn4
  go_wp2_with fail
  refine (get_any _ _ _ 0 _ hr4 (by decide) (by simp)).mono ?_
  rw [show rdGet [] 8 0 = (0, [], 8) by decide]
  rintro e x5 ⟨rfl, hr5, hb5⟩
  have hx5 := hb5.below hx4 hgw hx4.size
  go_wp2
  go_ret
  exact ⟨rfl, hx5⟩
end Go.Proofs.Ytbooofbgfihogaa
