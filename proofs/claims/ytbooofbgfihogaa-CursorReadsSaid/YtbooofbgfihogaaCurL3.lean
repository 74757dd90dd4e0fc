/- Chapter 1: the law CursorTakes. -/
import Derived.Test.YtbooofbgfihogaaCurL2
namespace Go.Proofs.Ytbooofbgfihogaa
open Go.RowKit Go.BigFrame
set_option linter.unusedVariables false

theorem drop_cells {w : World} {B : Nat} {ao : Option Addr} {n p m : Nat} {l : List Nat} (h : CellsAt w B ao n (u8c l)) (hp : p + m ≤ n) : CellsAt w B (ao.map (·.add p)) m (u8c ((l.drop p).take m)) := by
  intro i hi
  obtain ⟨b, off, rfl, hb, hc⟩ := h (p + i) (by omega)
  refine ⟨b, off + p, by simp [Addr.add_lit], hb, ?_⟩
  rw [u8c_take _ _ _ hi, u8c_drop, ← hc, Nat.add_assoc]

theorem own_drewN {w : World} {base : Nat} {e : TypeId} {size : Nat} {v : Value} {n : Nat} {xs : List Value} (h : w.ownsRow base e size v n xs) (k : Nat) : (w.drewN k).ownsRow base e size v n xs := by
  refine ⟨h.1, h.2.imp id fun ⟨g, cap, cur, h1, h2, h3, h4⟩ => ⟨g, cap, cur, h1, h2, ?_, h4⟩⟩
  rw [← h3]; rfl
theorem slice_lh (a : Option Addr) (len cap p n : Nat) (hcap : p + n ≤ cap) :
    ∃ ao', (n = 0 ∨ ao' = a.map (·.add p)) ∧ ∀ w : World, (Instr.sliceAt 22 (.slice a len cap) (some (.int .i64 (p : Nat))) (some (.int .i64 ((p : Int) + (n : Int)))) none).run Try.prog w = .ok (.slice ao' n (cap - p)) w := by
  refine ⟨if cap = p then a else a.map (·.add (p * 1)), ?_, fun w => ?_⟩
  · by_cases h : cap = p
    · exact .inl (by omega)
    · rw [if_neg h, Nat.mul_one]; exact .inr rfl
  · have e : ((p : Int) + (n : Int)).toNat = p + n := by omega
    have h := run_slice_lh (P := Try.prog) (w := w) 22 a len cap Try.underlying22 .i64 .i64 (p : Int) ((p : Int) + (n : Int)) (by omega) (by omega) (by omega)
    rw [run_sliceAt_slice (P := Try.prog) w _ _ _ _ _ Try.underlying22, h, e, Int.toNat_natCast]
    have hs : (sizeOf (Try.prog.elem 22)).run Try.prog w = .ok 1 w := by kernel_rfl
    rw [hs]
    simp [Result.andThen, sliced, Nat.add_sub_cancel_left]

set_option maxHeartbeats 4000000 in
set_option maxRecDepth 100000 in
theorem cursorTakes_walk (a0 : Option Addr) (len0 cap0 : Nat) (z0 : List Int) (a1 : Option Addr) (len1 cap1 : Nat) (z1 : List Int)
    (w : World) (w0 : IsRow .u8 w a0 len0 cap0 z0) (w1 : IsRow .i64 w a1 len1 cap1 z1) :
    Calls Try.prog 3 #[.slice a0 len0 cap0, .slice a1 len1 cap1] w fun e w' => e = .returned (.bool true) ∧ Below w.heap.size w w' := by
  obtain ⟨l, hl, hb, hc, hn, hlen⟩ := w0.u8
  obtain ⟨cs, hcl, hcb, hcc, hcn, hclen⟩ := w1.i64
  by_cases h7 : 100 < len0
  · go_enter Try.func3, Try.ntmps3
    go_wp2_with (go_at_call 9; refine (known_any _).mono ?_; rintro e x1 ⟨rfl, hx1⟩)
    go_ret
    exact ⟨rfl, hx1⟩
  have Hl := Lib.hid hl; clear hl
  have Hb := Lib.hid hb; clear hb
  have Hcl := Lib.hid hcl; clear hcl
  have Hcb := Lib.hid hcb; clear hcb
  go_enter Try.func3, Try.ntmps3
  go_wp2_with (go_at_call 9; refine (known_any _).mono ?_; rintro e x1 ⟨rfl, hx1⟩)
  refine (new_any _ _ _ l _ Hl.out (hc.at hx1) hn (by omega)).mono ?_
  rintro e x2 ⟨g, rfl, hg, hr2, hx2⟩
  have hx2 := bmore hx1 hx2
  have hgw : w.heap.size ≤ g := Nat.le_trans hx1.size hg
  obtain ⟨lo, hlo⟩ : ∃ lo, lo = x1.heap.size := ⟨_, rfl⟩
  rw [← hlo] at hr2
  clear hg hlo
  go_wp2
  go_loopw [6, 7] (fun at_ i wr => ∃ k p : Nat, k ≤ 20 ∧ p ≤ len0 ∧ at_ = .int .i64 p ∧ i = .int .i64 k ∧ Rd wr g lo (l.drop p) 0 ∧ Below w.heap.size w wr) (fun _ i _ => 20 - (intOf i).toNat)
  case atStart => exact ⟨0, 0, by omega, by omega, rfl, rfl, hr2, hx2⟩
  case round =>
    obtain ⟨k, p, hk, hp, rfl, rfl, hr, hwr⟩ := hrel
    by_cases h1 : k < len1 ∧ k < 20
    · obtain ⟨h1, h20⟩ := h1
      obtain ⟨b, off, rfl, hbb, hc3⟩ := hcc k h1
      have hc3' := (hwr.cell (by exact hbb)).trans hc3
      obtain ⟨av, hav⟩ : ∃ av, av = cs.getD k 0 := ⟨_, rfl⟩
      have hav64 : -9223372036854775808 ≤ av ∧ av ≤ 9223372036854775807 := by
        rw [hav, List.getD_eq_getElem?_getD, List.getElem?_eq_getElem (by rw [Hcl.out]; exact h1)]
        exact Hcb.out _ (List.getElem_mem _)
      rw [i64c, ← hav] at hc3'
      obtain ⟨n, hn2, hnl⟩ := modN av (len0 - p + 1) (by omega)
      have Hn := Lib.hid hn2
      have f1 : Hid (rdTake (l.drop p) 0 (n : Int) = ((l.drop p).take n, l.drop (p + n), 0)) := Lib.hid (by
        unfold rdTake; rw [if_neg (by rw [List.length_drop, Hl.out]; omega), Int.toNat_natCast, List.drop_drop])
      have Ht : Hid (((l.drop p).take n).length = n) := Lib.hid (List.length_take_of_le (by rw [List.length_drop, Hl.out]; omega))
      have Hd : Hid ((l.drop (p + n)).length = len0 - (p + n)) := Lib.hid (by rw [List.length_drop, Hl.out])
      have e1 : (k : Int) < (len1 : Int) := by omega
      have e2 : (k : Int) < 20 := by omega
      have e3 : (0 : Int) ≤ (k : Int) := by omega
      clear hn2 hav hcc hc3
      go_wp2_with fail
      refine (within_any av ((len0 : Int) - (p : Int) + 1) _ (by omega) (by omega) hav64.1 hav64.2).mono ?_; rw [show av % ((len0 : Int) - (p : Int) + 1) = n by rw [← Hn.out]; congr 1; omega]; rintro e x4 ⟨rfl, rfl⟩
      go_wp2_with fail
      refine (rtake_any _ _ _ (n : Int) _ hr (by rw [List.length_drop, Hl.out]; omega)).mono ?_
      rw [f1.out, Ht.out]
      rintro e x4 ⟨ao4, cap4, rfl, hc4, hn4, hrow, hr4, hb4⟩
      have hx4 := hb4.below hwr hgw hwr.size
      have q1 := fun (m : Nat) => run_string_of (P := Try.prog) (w := x4.drewN m) (cap := cap4) 22 5 9 Try.underlying22 Try.underlying5 Try.underlying9 Ht.out (hc4.at (below_drewN (Below.refl _ _) m)) hn4
      have hc0 : len0 ≤ cap0 := w0.open_.1
      obtain ⟨ao', hao, hs⟩ := slice_lh a0 len0 cap0 p n (by omega)
      have qc : ∀ m : Nat, CellsAt (x4.drewN m) (x4.drewN m).heap.size ao' n (u8c ((l.drop p).take n)) := fun m => by
        rcases hao with h0 | rfl
        · subst h0; exact CellsAt.zero
        · exact drop_cells (p := p) (m := n) (hc.at (below_drewN hx4 m)) (by omega)
      have q2 := fun (m : Nat) => run_string_of (P := Try.prog) (w := x4.drewN m) (cap := cap0 - p) 22 5 9 Try.underlying22 Try.underlying5 Try.underlying9 Ht.out (qc m) (fun e => by
        rcases hao with h0 | rfl
        · exact h0
        · have := hn (by cases a0 with | none => rfl | some a => simp at e)
          omega)
      have hr4 : Rd x4 g lo (l.drop (p + n)) 0 := hr4
      have e4 : ((len0 - (p + n) : Nat) : Int) = (len0 : Int) - (p : Int) - (n : Int) := by omega
      have hL : ∀ m : Nat, Calls Try.prog 13 #[.pointer (some ⟨g, 0, none⟩)] (x4.drewN m) fun e w' => e = .returned (.int .i64 ((len0 : Int) - (p : Int) - (n : Int))) ∧ x4.drewN m = w' := fun m => by
        have h := left_any g (lo := lo) (l.drop (p + n)) 0 (x4.drewN m) (hr4.keep (below_drewN (Below.refl _ _) m))
        rwa [Hd.out, e4] at h
      have HL := Lib.hid hL
      have hr0 := Lib.hid hr
      clear hb4 hr hL e4 qc hao
      go_wp2
      go_quiet (exact Calls.quiet_of_same (same_flip (HL.out _)))
      clear q1 q2 hs HL
      have hr5 : Rd (x4.drewN nq) g lo (l.drop (p + n)) 0 := hr4.keep (below_drewN (Below.refl _ _) nq)
      have hx5 := below_drewN hx4 nq
      by_cases hn0 : 0 < n
      · obtain ⟨gx, rfl, hgx, hown⟩ := hrow.pos hn0
        have hown2 := own_drewN hown nq
        have hcell : (x4.drewN nq).cell? ⟨gx, 0, none⟩ = some (u8c ((l.drop p).take n) 0) := by rw [hown2.cellAt 0 (by omega), u8v_at _ 0 (by rw [Ht.out]; omega)]
        have hfr := hown2.frozenAt 0
        rw [u8c] at hcell
        obtain ⟨y, hy⟩ : ∃ y, y = ((l.drop p).take n).getD 0 0 := ⟨_, rfl⟩
        rw [← hy] at hcell
        have hgx2 : g < gx := Nat.lt_of_lt_of_le hr0.out.lt hgx
        have hr6 := Lib.hid (hr5.below ((Below.refl gx _).setCell (p := ⟨gx, 0, none⟩) (Nat.le_refl _) (.int .u8 (((y : Int) + 1) % 256))) hgx2)
        have hx6 := Lib.hid (hx5.setCell (p := ⟨gx, 0, none⟩) (show w.heap.size ≤ gx by omega) (.int .u8 (((y : Int) + 1) % 256)))
        have e9 : (0 : Int) < (n : Int) := by omega
        clear hy hrow hown hown2 hr5 hx5
        go_wp2
        go_roundw
        case rel => exact ⟨k + 1, p + n, by omega, by omega, by go_num, by go_num, hr6.out, hx6.out⟩
        case measure => simp [intOf]; omega
      · obtain rfl : n = 0 := by omega
        have hr6 := Lib.hid hr5
        have hx6 := Lib.hid hx5
        go_wp2
        go_roundw
        case rel => exact ⟨k + 1, p, by omega, by omega, by go_num, by go_num, hr6.out, hx6.out⟩
        case measure => simp [intOf]; omega
    · have hlast : ∀ y : World, Calls Try.prog 14 #[.pointer (some ⟨g, 0, none⟩)] wr fun e w' => e = .returned (.int .i64 (if p = len0 then 0 else 9)) ∧ wr = w' := fun _ => by
        have h := end_any g (lo := lo) _ _ _ hr
        by_cases he : p = len0
        · rw [if_pos he]
          rw [show rdEnd (l.drop p) 0 = 0 by unfold rdEnd; rw [if_neg]; rw [List.length_drop, Hl.out]; omega] at h
          exact h
        · rw [if_neg he]
          rw [show rdEnd (l.drop p) 0 = 9 by unfold rdEnd; rw [if_pos]; rw [List.length_drop, Hl.out]; omega] at h
          exact h
      have Hlast := Lib.hid (hlast wr)
      clear hlast
      by_cases he : p = len0
      · have hlast := Hlast.out
        rw [if_pos he] at hlast
        subst he
        by_cases h2 : k < len1
        · have e2 : ¬ ((k : Int) < 20) := by omega
          have e1 : (k : Int) < (len1 : Int) := by omega
          go_wp2_with (go_at_call 14; refine hlast.mono ?_; rintro e x4 ⟨rfl, rfl⟩)
          go_ret
          exact ⟨rfl, hwr⟩
        · have e1 : ¬ ((k : Int) < (len1 : Int)) := by omega
          go_wp2_with (go_at_call 14; refine hlast.mono ?_; rintro e x4 ⟨rfl, rfl⟩)
          go_ret
          exact ⟨rfl, hwr⟩
      · have hlast := Hlast.out
        rw [if_neg he] at hlast
        have e5 : ((p : Int) == (len0 : Int)) = false := by simp; omega
        by_cases h2 : k < len1
        · have e2 : ¬ ((k : Int) < 20) := by omega
          have e1 : (k : Int) < (len1 : Int) := by omega
          go_wp2_with (go_at_call 14; refine hlast.mono ?_; rintro e x4 ⟨rfl, rfl⟩)
          go_ret
          exact ⟨rfl, hwr⟩
        · have e1 : ¬ ((k : Int) < (len1 : Int)) := by omega
          go_wp2_with (go_at_call 14; refine hlast.mono ?_; rintro e x4 ⟨rfl, rfl⟩)
          go_ret
          exact ⟨rfl, hwr⟩
end Go.Proofs.Ytbooofbgfihogaa
