/- Chapter 2's law BitsPack: the walk. -/
import Derived.Test.YtkmgbcpleopdgaaBitsK
import Derived.Test.YtkmgbcpleopdgaaLin
import Derived.Test.YtkmgbcpleopdgaaRow
namespace Go.Proofs.Ytkmgbcpleopdgaa
open Go.RowKit

theorem sl_u64 : SlT Try.prog 22 30 1 8 (.int .u64 0) := ⟨Try.underlying22, Try.infoU64, rfl, by decide⟩
theorem sl_u8 : SlT Try.prog 25 5 1 1 (.int .u8 0) := ⟨Try.underlying25, Try.infoU8, rfl, by decide⟩

set_option maxHeartbeats 4000000 in
set_option maxRecDepth 100000 in
theorem bitsPack_any (ao : Option Addr) (n cap : Nat) (width : Int) (l : List Nat) (w : World) (hl : l.length = n) (hb : ∀ x ∈ l, x < 18446744073709551616)
    (hw1 : -9223372036854775808 ≤ width) (hw2 : width ≤ 9223372036854775807) (hn : n ≤ 9223372036854775807) (hc : CellsAt w w.heap.size ao n (u64c l)) (hax : ao = none → n = 0) :
    Calls Try.prog 3 #[.slice ao n cap, .int .i64 width] w fun e w' => e = .returned (.bool true) ∧ Below w.heap.size w w' := by
  have Hl := Lib.hid hl; clear hl
  have Hb := Lib.hid hb; clear hb
  by_cases hn60 : 60 < n
  · go_enter Try.func3, Try.ntmps3
    go_wp2_with (go_at_call 11; refine (known_any _).mono ?_; rintro e w1 ⟨rfl, hb1⟩)
    go_ret
    exact ⟨rfl, hb1⟩
  · have hm1 : 0 ≤ width % 65 := Int.emod_nonneg _ (by omega)
    have hm2 : width % 65 < 65 := Int.emod_lt_of_pos _ (by omega)
    go_enter Try.func3, Try.ntmps3
    go_wp2_with (first
      | (go_at_call 11; refine (known_any _).mono ?_; rintro e w1 ⟨rfl, hb1⟩)
      | (go_at_call 12; refine (within_any _ _ _ (by omega) (by omega) hw1 hw2).mono ?_; rintro e w' ⟨rfl, rfl⟩))
    have hc1 := hc.below hb1
    refine wp_region_lin [(1, true), (3, true), (6, true), (7, true), (0, false), (2, false), (4, false), (5, true), (8, false), (9, true), (10, true), (11, true), (12, true), (13, true), (16, true), (17, true), (14, false), (15, true), (18, false), (19, true), (20, true), (21, true), (22, true)] (by kernel_rfl) (by kernel_rfl) (fun d _ _ _ _ h => by cases d <;> exact h) ?_
    repeat (first
      | (refine wpLin_skip rfl rfl (fun K hK => ?_); go_simp; refine hK _ ?_; clear hK K)
      | (refine wpLin_take (v := ?_) rfl rfl (fun w' hw' => ?_) (fun K hK => ?_); rotate_left; (go_simp; rfl); (go_simp; refine hK _ ?_; clear hK K)))
    refine wpLin_do rfl (fun K hK => ?_); go_simp; refine hK _ _ ((Grows.refl w1).alloc _).drew.ofDrew ?_; clear hK K
    refine wpLin_do rfl (fun K hK => ?_)
    refine step_append_clone1 sl_u64 rfl (.tmp 13) (.tmp 14) rfl rfl rfl (hc1.alloc hb1.size _).drew hax (fun _ _ => rfl) (by unfold maxLen; omega) (by omega) ?_
    intro aoA capA wA hcA hbA _
    have hA := bmore (balloc hb1 _).drew hbA
    go_simp; refine hK _ _ hbA ?_; clear hK K
    refine wpLin_do rfl (fun K hK => ?_); go_simp
    refine (pack_any _ _ _ _ l _ Hl.out (by omega) Hb.out hcA).mono ?_
    rintro e wB ⟨v, rfl, hf⟩
    obtain ⟨aoB, nB, capB, rfl, HnB, hcB, hnB, _⟩ := hf.u8
    have hB := bmore hA hf.2
    have cvB := fun w' (hw' : Grows wB w') => run_string_of (P := Try.prog) (cap := capB) 25 5 9 Try.underlying25 Try.underlying5 Try.underlying9 HnB.out.symm (hw'.cells hcB) hnB
    refine hK _ _ hf.2 ?_; clear hK K hf
    repeat (first
      | (refine wpLin_skip rfl rfl (fun K hK => ?_); go_simp; refine hK _ ?_; clear hK K)
      | (refine wpLin_take (v := ?_) rfl rfl (fun w' hw' => ?_) (fun K hK => ?_); rotate_left; (go_simp; rfl); (go_simp; refine hK _ ?_; clear hK K)))
    refine wpLin_do rfl (fun K hK => ?_); go_simp
    refine (rpack_any _ _ _ _ l _ Hl.out (by omega) Hb.out (hc.at hB)).mono ?_
    rintro e wC ⟨v, rfl, hf⟩
    obtain ⟨aoC, nC, capC, rfl, HnC, hcC, hnC, _⟩ := hf.u8
    have hC := bmore hB hf.2
    have cvC := fun w' (hw' : Grows wC w') => run_string_of (P := Try.prog) (cap := capC) 25 5 9 Try.underlying25 Try.underlying5 Try.underlying9 HnC.out.symm (hw'.cells hcC) hnC
    refine hK _ _ hf.2 ?_; clear hK K hf
    repeat (first
      | (refine wpLin_skip rfl rfl (fun K hK => ?_); go_simp; refine hK _ ?_; clear hK K)
      | (refine wpLin_take (v := ?_) rfl rfl (fun w' hw' => ?_) (fun K hK => ?_); rotate_left; (go_simp; rfl); (go_simp; refine hK _ ?_; clear hK K)))
    refine wpLin_do rfl (fun K hK => ?_); go_simp
    refine (pack_any _ _ _ _ l _ Hl.out (by omega) Hb.out (hc.at hC)).mono ?_
    rintro e wD ⟨v, rfl, hf⟩
    obtain ⟨aoD, nD, capD, rfl, HnD, hcD, hnD, _⟩ := hf.u8
    have hD := bmore hC hf.2
    have cvD := fun w' (hw' : Grows wD w') => run_string_of (P := Try.prog) (cap := capD) 25 5 9 Try.underlying25 Try.underlying5 Try.underlying9 HnD.out.symm (hw'.cells hcD) hnD
    refine hK _ _ hf.2 ?_; clear hK K hf
    repeat (first
      | (refine wpLin_skip rfl rfl (fun K hK => ?_); go_simp; refine hK _ ?_; clear hK K)
      | (refine wpLin_take (v := ?_) rfl rfl (fun w' hw' => ?_) (fun K hK => ?_); rotate_left; (go_simp; rfl); (go_simp; refine hK _ ?_; clear hK K)))
    refine wpLin_do rfl (fun K hK => ?_); go_simp
    refine (rpack_any _ _ _ _ l _ Hl.out (by omega) Hb.out (hc.at hD)).mono ?_
    rintro e wE ⟨v, rfl, hf⟩
    obtain ⟨aoE, nE, capE, rfl, HnE, hcE, hnE, _⟩ := hf.u8
    have hE := bmore hD hf.2
    have cvE := fun w' (hw' : Grows wE w') => run_string_of (P := Try.prog) (cap := capE) 25 5 9 Try.underlying25 Try.underlying5 Try.underlying9 HnE.out.symm (hw'.cells hcE) hnE
    refine hK _ _ hf.2 ?_; clear hK K hf
    repeat (first
      | (refine wpLin_skip rfl rfl (fun K hK => ?_); go_simp; refine hK _ ?_; clear hK K)
      | (refine wpLin_take (v := ?_) rfl rfl (fun w' hw' => ?_) (fun K hK => ?_); rotate_left; (go_simp; rfl); (go_simp; refine hK _ ?_; clear hK K)))
    refine wpLin_nil ?_
    go_wp2
    go_ret
    exact ⟨rfl, hE⟩
theorem bitsPack_walk (a0 : Option Addr) (len0 cap0 : Nat) (z0 : List Int) (a1 : Int) (w : World) (w0 : IsRow .u64 w a0 len0 cap0 z0) (w1 : (Lit.int .i64 a1).wf = true) :
    Calls Try.prog 3 #[.slice a0 len0 cap0, .int .i64 a1] w fun e w' => e = .returned (.bool true) ∧ Below w.heap.size w w' := by
  obtain ⟨l, h1, h2, h3, h4, h5⟩ := w0.u64
  exact bitsPack_any a0 len0 cap0 a1 l w h1 h2 (bounds_i64 w1).1 (bounds_i64 w1).2 h5 h3 h4
end Go.Proofs.Ytkmgbcpleopdgaa
