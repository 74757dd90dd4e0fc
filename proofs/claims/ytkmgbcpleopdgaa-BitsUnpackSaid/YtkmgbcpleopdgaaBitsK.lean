/- Chapter 2's small law functions: within, known; Pack at any width. -/
import Derived.Test.YtkmgbcpleopdgaaBitsR
namespace Go.Proofs.Ytkmgbcpleopdgaa
open Go.RowKit
set_option linter.unusedVariables false

/-- What Pack makes at any width. -/
def packedAny (l : List Nat) (width : Int) : List Nat := if 0 ≤ width ∧ width ≤ 64 then packed l width.toNat else []

theorem fresh_nil (w : World) (E : TypeId) : Fresh w w E (.slice none 0 0) [] := ⟨World.ownsRow_nil _ _ _ _, Below.refl _ _⟩
theorem gave_nil (w : World) (E : TypeId) : GaveFresh w E [] (.returned (.slice none 0 0)) w := ⟨_, rfl, fresh_nil _ _⟩

set_option maxHeartbeats 400000 in
theorem pack_out (ao : Option Addr) (n cap : Nat) (width : Int) (w : World) (hw : width < 0 ∨ 64 < width) :
    Calls Try.prog 13 #[.slice ao n cap, .int .i64 width] w (GaveFresh w 5 (u8v [])) := by
  rcases hw with hw | hw
  · go_enter Try.func13, Try.ntmps13
    go_wp2
    go_ret
    exact gave_nil _ _
  · go_enter Try.func13, Try.ntmps13
    have h0 : ¬ width < 0 := by omega
    go_wp2
    go_ret
    exact gave_nil _ _
set_option maxHeartbeats 400000 in
theorem rpack_out (ao : Option Addr) (n cap : Nat) (width : Int) (w : World) (hw : width < 0 ∨ 64 < width) :
    Calls Try.prog 14 #[.slice ao n cap, .int .i64 width] w (GaveFresh w 5 (u8v [])) := by
  rcases hw with hw | hw
  · go_enter Try.func14, Try.ntmps14
    go_wp2
    go_ret
    exact gave_nil _ _
  · go_enter Try.func14, Try.ntmps14
    have h0 : ¬ width < 0 := by omega
    go_wp2
    go_ret
    exact gave_nil _ _
theorem pack_any (ao : Option Addr) (n cap : Nat) (width : Int) (l : List Nat) (w : World) (hl : l.length = n) (hn : n ≤ 100000000) (hb : ∀ x ∈ l, x < 18446744073709551616)
    (hc : CellsAt w w.heap.size ao n (u64c l)) :
    Calls Try.prog 13 #[.slice ao n cap, .int .i64 width] w (GaveFresh w 5 (u8v (packedAny l width))) := by
  unfold packedAny
  by_cases h : 0 ≤ width ∧ width ≤ 64
  · rw [if_pos h]
    have := pack_in ao n cap width.toNat l w hl hn (by omega) hb hc
    rwa [Int.toNat_of_nonneg h.1] at this
  · rw [if_neg h]; exact pack_out ao n cap width w (by omega)
theorem rpack_any (ao : Option Addr) (n cap : Nat) (width : Int) (l : List Nat) (w : World) (hl : l.length = n) (hn : n ≤ 100000000) (hb : ∀ x ∈ l, x < 18446744073709551616)
    (hc : CellsAt w w.heap.size ao n (u64c l)) :
    Calls Try.prog 14 #[.slice ao n cap, .int .i64 width] w (GaveFresh w 5 (u8v (packedAny l width))) := by
  unfold packedAny
  by_cases h : 0 ≤ width ∧ width ≤ 64
  · rw [if_pos h]
    have := rpack_in ao n cap width.toNat l w hl hn (by omega) hb hc
    rwa [Int.toNat_of_nonneg h.1] at this
  · rw [if_neg h]; exact rpack_out ao n cap width w (by omega)

set_option maxHeartbeats 400000 in
theorem within_any (a b : Int) (w : World) (hb : 0 < b) (hb2 : b ≤ 100000) (ha : -9223372036854775808 ≤ a) (ha2 : a ≤ 9223372036854775807):
    Calls Try.prog 12 #[.int .i64 a, .int .i64 b] w fun e w' => e = .returned (.int .i64 (a % b)) ∧ w = w' := by
  by_cases h0 : 0 ≤ a
  · have h1 : a.tmod b = a % b := Int.tmod_eq_emod_of_nonneg h0
    have h2 : 0 ≤ a % b := Int.emod_nonneg _ (by omega)
    go_enter Try.func12, Try.ntmps12
    go_wp2
    go_ret
    exact ⟨rfl, rfl⟩
  · by_cases hd : a % b = 0
    · have h1 : a.tmod b = 0 := Int.tmod_eq_zero_of_dvd (Int.dvd_of_emod_eq_zero hd)
      have Hd := Lib.hid hd; clear hd
      go_enter Try.func12, Try.ntmps12
      go_wp2
      go_ret
      rw [Hd.out]; exact ⟨rfl, rfl⟩
    · have h1 : a.tmod b = a % b - b := by
        rw [Int.tmod_eq_emod]
        rw [if_neg (by rintro (h | h); exact h0 h; exact hd (Int.emod_eq_zero_of_dvd h))]
        omega
      have h2 : a % b < b := Int.emod_lt_of_pos _ hb
      have h3 : 0 ≤ a % b := Int.emod_nonneg _ (by omega)
      go_enter Try.func12, Try.ntmps12
      go_wp2
      go_ret
      exact ⟨rfl, rfl⟩
theorem packed_known : packedAny [1, 2, 3] 2 = [57] := by decide
set_option maxHeartbeats 1000000 in
theorem known_any (w : World) :
    Calls Try.prog 11 #[] w fun e w' => e = .returned (.bool true) ∧ Below w.heap.size w w' := by
  go_enter Try.func11, Try.ntmps11
  go_wp2_with fail
  refine (pack_any _ 3 3 2 [1, 2, 3] _ rfl (by decide) (by decide) (cells_alloc _ _ _ _ _ (fun i hi => by match i, hi with | 0, _ => rfl | 1, _ => rfl | 2, _ => rfl))).mono ?_
  rw [packed_known]
  rintro e w1 ⟨v, rfl, hf⟩
  obtain ⟨ao, cap, rfl, hc1, -⟩ := own_u8 hf.1
  have hbel : Below w.heap.size w w1 := ((Below.refl _ _).alloc (Nat.le_refl _) _).trans (hf.2.mono (by simp))
  obtain ⟨b, off, rfl, -, hc2⟩ := hc1.first (by decide)
  rw [show u8c [57] 0 = .int .u8 57 from rfl] at hc2
  clear hc1 hf
  go_wp2
  go_ret
  exact ⟨rfl, hbel⟩
end Go.Proofs.Ytkmgbcpleopdgaa
