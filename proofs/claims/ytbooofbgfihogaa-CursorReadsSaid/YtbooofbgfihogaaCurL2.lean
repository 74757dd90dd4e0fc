/- Chapter 1: the laws CursorFails, CursorTwo. -/
import Derived.Test.YtbooofbgfihogaaCurK
namespace Go.Proofs.Ytbooofbgfihogaa
open Go.RowKit
set_option linter.unusedVariables false

theorem modN (a : Int) (b : Nat) (hb : 0 < b) : ∃ k : Nat, a % (b : Int) = k ∧ k < b := by
  have h1 : 0 ≤ a % (b : Int) := Int.emod_nonneg _ (by omega)
  have h2 : a % (b : Int) < (b : Int) := Int.emod_lt_of_pos _ (by omega)
  exact ⟨(a % (b : Int)).toNat, by omega, by omega⟩

set_option maxHeartbeats 4000000 in
set_option maxRecDepth 100000 in
theorem cursorFails_walk (a0 : Option Addr) (len0 cap0 : Nat) (z0 : List Int) (a1 a2 : Int)
    (w : World) (w0 : IsRow .u8 w a0 len0 cap0 z0) (w1 : (Lit.int .i64 a1).wf = true) (w2 : (Lit.int .i64 a2).wf = true) :
    Calls Try.prog 6 #[.slice a0 len0 cap0, .int .i64 a1, .int .i64 a2] w fun e w' => e = .returned (.bool true) ∧ Below w.heap.size w w' := by
  obtain ⟨l, hl, hb, hc, hn, hlen⟩ := w0.u8
  obtain ⟨ha1, ha2⟩ := bounds_i64 w1
  obtain ⟨hb1, hb2⟩ := bounds_i64 w2
  by_cases h7 : 50 < len0
  · go_enter Try.func6, Try.ntmps6
    go_wp2_with (go_at_call 9; refine (known_any _).mono ?_; rintro e x1 ⟨rfl, hx1⟩)
    go_ret
    exact ⟨rfl, hx1⟩
  obtain ⟨k1, hk1, hk1l⟩ := modN a1 15 (by decide)
  obtain ⟨k2, hk2, hk2l⟩ := modN a2 15 (by decide)
  have Hk1 := Lib.hid hk1; clear hk1
  have Hk2 := Lib.hid hk2; clear hk2
  have Hl := Lib.hid hl; clear hl
  have Hb := Lib.hid hb; clear hb
  have f1 : Hid (rdFail l 0 0 = (l, 0)) := Lib.hid rfl
  have f2 : Hid (rdFail l 0 (1 + k1) = ([], 1 + k1)) := Lib.hid (by unfold rdFail; rw [if_pos rfl, if_neg (by omega)])
  have f3 : Hid (rdFail [] (1 + k1) (1 + k2) = ([], 1 + k1)) := Lib.hid (by unfold rdFail; rw [if_neg (by omega)])
  have f4 : Hid (rdGet [] (1 + k1) 8 = (0, [], 1 + k1)) := Lib.hid (by
    unfold rdGet; rw [if_neg (by omega)]; unfold rdTake; rw [if_pos (by decide)]; unfold rdFail; rw [if_neg (by omega)]; rfl)
  have f5 : Hid (rdEnd [] (1 + k1) = 1 + k1) := Lib.hid (by unfold rdEnd; rw [if_neg (by omega)])
  go_enter Try.func6, Try.ntmps6
  go_wp2_with (go_at_call 9; refine (known_any _).mono ?_; rintro e x1 ⟨rfl, hx1⟩)
  refine (within_any a1 15 _ (by omega) (by omega) ha1 ha2).mono ?_; rw [show a1 % 15 = k1 from Hk1.out]; rintro e x2 ⟨rfl, rfl⟩
  go_wp2_with fail
  refine (within_any a2 15 _ (by omega) (by omega) hb1 hb2).mono ?_; rw [show a2 % 15 = k2 from Hk2.out]; rintro e x2 ⟨rfl, rfl⟩
  go_wp2_with fail
  refine (new_any _ _ _ l _ Hl.out (hc.at hx1) hn (by omega)).mono ?_
  rintro e x2 ⟨g, rfl, hg, hr2, hx2⟩
  have hx2 := bmore hx1 hx2
  have hgw : w.heap.size ≤ g := Nat.le_trans hx1.size hg
  clear hg
  go_wp2_with fail
  refine (fail_any _ _ _ 0 _ hr2).mono ?_
  rw [f1.out]
  rintro e x3 ⟨rfl, hr3, hb3⟩
  have hx3 := hb3.below hx2 hgw hx2.size
  clear hr2 hb3 hx2
  go_wp2_with fail
  refine (left_any _ _ _ _ hr3).mono ?_
  rintro e x4 ⟨rfl, rfl⟩
  go_wp2_with fail
  refine (fail_any _ _ _ (1 + k1) _ hr3).mono ?_
  rw [f2.out]
  rintro e x4 ⟨rfl, hr4, hb4⟩
  have hx4 := hb4.below hx3 hgw hx3.size
  clear hr3 hb4 hx3
  go_wp2_with fail
  refine (fail_any _ _ _ (1 + k2) _ hr4).mono ?_
  rw [f3.out]
  rintro e x5 ⟨rfl, hr5, hb5⟩
  have hx5 := hb5.below hx4 hgw hx4.size
  clear hr4 hb5 hx4
  go_wp2_with fail
  refine (get_any _ _ _ 8 _ hr5 (by decide) (by simp)).mono ?_
  rw [f4.out]
  rintro e x6 ⟨rfl, hr6, hb6⟩
  have hx6 := hb6.below hx5 hgw hx5.size
  clear hr5 hb6 hx5
  have el : (l.length : Int) = len0 := by rw [Hl.out]
  go_wp2_with fail
  refine (end_any _ _ _ _ hr6).mono ?_
  rw [f5.out]
  rintro e x7 ⟨rfl, rfl⟩
  go_wp2_with fail
  refine (left_any _ _ _ _ hr6).mono ?_
  rintro e x7 ⟨rfl, rfl⟩
  go_wp2
  go_ret
  exact ⟨rfl, hx6⟩

theorem RowB.pos {w : World} {base : Nat} {ao : Option Addr} {n cap : Nat} {l : List Nat} (h : RowB w base ao n cap l) (hn : 0 < n) :
    ∃ g, ao = some ⟨g, 0, none⟩ ∧ base ≤ g ∧ w.ownsRow base 5 1 (.slice (some ⟨g, 0, none⟩) n cap) n (u8v l) := by
  rcases h.2 with ⟨h0, -⟩ | ⟨h0, ho⟩
  · omega
  · rcases ho.2 with ⟨-, h3⟩ | ⟨g, c2, cur, h3, hb, -⟩
    · omega
    · simp only [Value.slice.injEq] at h3
      obtain ⟨rfl, -, rfl⟩ := h3
      exact ⟨g, rfl, hb, ho⟩

set_option maxHeartbeats 4000000 in
set_option maxRecDepth 100000 in
theorem cursorTwo_walk (a0 : Option Addr) (len0 cap0 : Nat) (z0 : List Int) (a1 : Int)
    (w : World) (w0 : IsRow .u8 w a0 len0 cap0 z0) (w1 : (Lit.int .i64 a1).wf = true) :
    Calls Try.prog 4 #[.slice a0 len0 cap0, .int .i64 a1] w fun e w' => e = .returned (.bool true) ∧ Below w.heap.size w w' := by
  obtain ⟨l, hl, hb, hc, hn, hlen⟩ := w0.u8
  obtain ⟨ha1, ha2⟩ := bounds_i64 w1
  by_cases h2 : len0 < 2
  · go_enter Try.func4, Try.ntmps4
    go_wp2_with (go_at_call 9; refine (known_any _).mono ?_; rintro e x1 ⟨rfl, hx1⟩)
    go_ret
    exact ⟨rfl, hx1⟩
  by_cases h7 : 50 < len0
  · go_enter Try.func4, Try.ntmps4
    go_wp2_with (go_at_call 9; refine (known_any _).mono ?_; rintro e x1 ⟨rfl, hx1⟩)
    go_ret
    exact ⟨rfl, hx1⟩
  obtain ⟨k, hk, hkl⟩ := modN a1 (len0 - 1) (by omega)
  have Hk := Lib.hid hk; clear hk
  have Hl := Lib.hid hl; clear hl
  have Hb := Lib.hid hb; clear hb
  have f1 : Hid (rdTake l 0 (1 + (k : Int)) = (l.take (1 + k), l.drop (1 + k), 0)) := Lib.hid (by
    unfold rdTake; rw [if_neg (by rw [Hl.out]; omega), show (1 + (k : Int)).toNat = 1 + k by omega])
  have f2 : Hid (rdTake l 0 (len0 : Int) = (l, [], 0)) := Lib.hid (by
    unfold rdTake; rw [if_neg (by rw [Hl.out]; omega), Int.toNat_natCast, List.take_of_length_le (by rw [Hl.out]; omega), List.drop_of_length_le (by rw [Hl.out]; omega)])
  have Ht : Hid ((l.take (1 + k)).length = 1 + k) := Lib.hid (List.length_take_of_le (by rw [Hl.out]; omega))
  have Hd : Hid ((l.drop (1 + k)).length = len0 - (1 + k)) := Lib.hid (by rw [List.length_drop, Hl.out])
  have Hl100 : l.length ≤ 100 := by rw [Hl.out]; omega
  have kb := fun (w : World) (ao : Option Addr) (cap : Nat) h1 h2 => run_string_of (P := Try.prog) (w := w) (B := w.heap.size) (ao := ao) (n := len0) (cap := cap) (l := l) 22 5 9 Try.underlying22 Try.underlying5 Try.underlying9 Hl.out h1 h2
  have Kb := Lib.hid kb; clear kb
  go_enter Try.func4, Try.ntmps4
  go_wp2_with (go_at_call 9; refine (known_any _).mono ?_; rintro e x1 ⟨rfl, hx1⟩)
  refine (new_any _ _ _ l _ Hl.out (hc.at hx1) hn (by omega)).mono ?_
  rintro e x2 ⟨g, rfl, hg, hr2, hx2⟩
  have hx2 := bmore hx1 hx2
  have hgw : w.heap.size ≤ g := Nat.le_trans hx1.size hg
  clear hg
  go_wp2_with fail
  refine (new_any _ _ _ l _ Hl.out (hc.at hx2) hn (by omega)).mono ?_
  rintro e x3 ⟨g2, rfl, hg2, hs3, hx3⟩
  have hr3 := hr2.keep hx3
  have hgx2 : g < x2.heap.size := hr2.lt
  have hgg : g < g2 := Nat.lt_of_lt_of_le hr2.lt hg2
  have hx3 := bmore hx2 hx3
  have hgw2 : w.heap.size ≤ g2 := Nat.le_trans hx2.size hg2
  clear hg2 hr2 hx2
  go_wp2_with fail
  refine (within_any a1 ((len0 : Int) - 1) _ (by omega) (by omega) ha1 ha2).mono ?_; rw [show a1 % ((len0 : Int) - 1) = k by rw [← Hk.out]; congr 1; omega]; rintro e x4 ⟨rfl, rfl⟩
  go_wp2_with fail
  refine (rtake_any _ _ _ (1 + (k : Int)) _ hr3 (by omega)).mono ?_
  rw [f1.out, Ht.out]
  rintro e x4 ⟨ao4, cap4, rfl, hc4, hn4, hrow, hr4, hb4⟩
  have hx4 := hb4.below hx3 hgw hx3.size
  obtain ⟨gx, rfl, hgx, hown⟩ := hrow.pos (by omega)
  have hs4 : Rd x4 g2 x2.heap.size l 0 := hs3.but hb4 (.inr ⟨hgx2, hgg⟩)
  have hg2x : g2 < gx := Nat.lt_of_lt_of_le hs3.lt hgx
  have hs5 := hs4.below ((Below.refl gx x4).setCell (p := ⟨gx, 0, none⟩) (Nat.le_refl _) (.int .u8 (((l.take (1 + k)).getD 0 0 + 1 : Int) % 256))) hg2x
  have hr5 := hr4.below ((Below.refl gx x4).setCell (p := ⟨gx, 0, none⟩) (Nat.le_refl _) (.int .u8 (((l.take (1 + k)).getD 0 0 + 1 : Int) % 256))) (by omega)
  have hx5 := hx4.setCell (p := ⟨gx, 0, none⟩) (show w.heap.size ≤ gx by omega) (.int .u8 (((l.take (1 + k)).getD 0 0 + 1 : Int) % 256))
  have Hr5 := Lib.hid hr5
  have Hs5 := Lib.hid hs5
  have Hx5 := Lib.hid hx5
  have hcell : x4.cell? ⟨gx, 0, none⟩ = some (u8c (l.take (1 + k)) 0) := by rw [hown.cellAt 0 (by omega), u8v_at _ 0 (by rw [Ht.out]; omega)]
  have hfr := hown.frozenAt 0
  clear hr5 hs5 hx5 hs4 hr4 hb4 hrow hown hx4 hc4 hs3 hr3
  rw [u8c] at hcell
  obtain ⟨y, hy⟩ : ∃ y, y = (l.take (1 + k)).getD 0 0 := ⟨_, rfl⟩
  rw [← hy] at hcell Hr5 Hs5 Hx5
  clear hy
  go_wp2_with fail
  obtain ⟨x5, hx5⟩ : ∃ x5, x5 = x4.setCell ⟨gx, 0, none⟩ (.int .u8 (((y : Int) + 1) % 256)) := ⟨_, rfl⟩
  rw [← hx5] at Hr5 Hs5 Hx5 ⊢
  clear hx5 hcell hfr
  refine (rtake_any _ _ _ (len0 : Int) _ Hs5.out (by omega)).mono ?_
  rw [f2.out]
  rintro e x6 ⟨ao6, cap6, rfl, hc6, hn6, -, hs6, hb6⟩
  have hx6 := hb6.below Hx5.out hgw2 Hx5.out.size
  have hr6 := Hr5.out.but hb6 (.inl hgg)
  have q1 := Kb.out x6 ao6 cap6 (by rw [← Hl.out]; exact hc6) (by rw [← Hl.out]; exact hn6)
  have q2 := Kb.out x6 a0 cap0 (hc.at hx6) hn
  have q3 := Lib.hid Hl.out
  rw [show (l, ([] : List Nat), 0).1.length = len0 from Hl.out]
  clear hb6 hc6
  go_wp2_with fail
  refine (left_any _ _ _ _ hr6).mono ?_
  rw [Hd.out]
  rintro e x7 ⟨rfl, rfl⟩
  have e9 : ((len0 - (1 + k) : Nat) : Int) = (len0 : Int) - (1 + (k : Int)) := by omega
  rw [e9]
  clear e9
  go_wp2_with fail
  refine (end_any _ _ _ _ hs6).mono ?_
  rw [show rdEnd (l, ([] : List Nat), 0).2.1 (l, ([] : List Nat), 0).2.2 = 0 from rfl]
  rintro e x7 ⟨rfl, rfl⟩
  go_wp2
  go_ret
  exact ⟨rfl, hx6⟩
end Go.Proofs.Ytbooofbgfihogaa
