/- Pack at any width. -/
import Derived.Test.YtlnlcmdbhkpnhaaBitsR
namespace Go.Proofs.Ytlnlcmdbhkpnhaa
open Go.RowKit
set_option linter.unusedVariables false

/-- What Pack makes at any width. -/
def packedAny (l : List Nat) (width : Int) : List Nat := if 0 ≤ width ∧ width ≤ 64 then packed l width.toNat else []

theorem fresh_nil (w : World) (E : TypeId) : Fresh w w E (.slice none 0 0) [] := ⟨World.ownsRow_nil _ _ _ _, Below.refl _ _⟩
theorem gave_nil (w : World) (E : TypeId) : GaveFresh w E [] (.returned (.slice none 0 0)) w := ⟨_, rfl, fresh_nil _ _⟩

set_option maxHeartbeats 400000 in
theorem pack_out (ao : Option Addr) (n cap : Nat) (width : Int) (w : World) (hw : width < 0 ∨ 64 < width) :
    Calls Try.prog 56 #[.slice ao n cap, .int .i64 width] w (GaveFresh w 5 (u8v [])) := by
  rcases hw with hw | hw
  · go_enter Try.func56, Try.ntmps56
    go_wp2
    go_ret
    exact gave_nil _ _
  · go_enter Try.func56, Try.ntmps56
    have h0 : ¬ width < 0 := by omega
    go_wp2
    go_ret
    exact gave_nil _ _
set_option maxHeartbeats 400000 in
theorem rpack_out (ao : Option Addr) (n cap : Nat) (width : Int) (w : World) (hw : width < 0 ∨ 64 < width) :
    Calls Try.prog 40 #[.slice ao n cap, .int .i64 width] w (GaveFresh w 5 (u8v [])) := by
  rcases hw with hw | hw
  · go_enter Try.func40, Try.ntmps40
    go_wp2
    go_ret
    exact gave_nil _ _
  · go_enter Try.func40, Try.ntmps40
    have h0 : ¬ width < 0 := by omega
    go_wp2
    go_ret
    exact gave_nil _ _
theorem pack_any (ao : Option Addr) (n cap : Nat) (width : Int) (l : List Nat) (w : World) (hl : l.length = n) (hn : n ≤ 100000000) (hb : ∀ x ∈ l, x < 18446744073709551616)
    (hc : CellsAt w w.heap.size ao n (u64c l)) :
    Calls Try.prog 56 #[.slice ao n cap, .int .i64 width] w (GaveFresh w 5 (u8v (packedAny l width))) := by
  unfold packedAny
  by_cases h : 0 ≤ width ∧ width ≤ 64
  · rw [if_pos h]
    have := pack_in ao n cap width.toNat l w hl hn (by omega) hb hc
    rwa [Int.toNat_of_nonneg h.1] at this
  · rw [if_neg h]; exact pack_out ao n cap width w (by omega)
theorem rpack_any (ao : Option Addr) (n cap : Nat) (width : Int) (l : List Nat) (w : World) (hl : l.length = n) (hn : n ≤ 100000000) (hb : ∀ x ∈ l, x < 18446744073709551616)
    (hc : CellsAt w w.heap.size ao n (u64c l)) :
    Calls Try.prog 40 #[.slice ao n cap, .int .i64 width] w (GaveFresh w 5 (u8v (packedAny l width))) := by
  unfold packedAny
  by_cases h : 0 ≤ width ∧ width ≤ 64
  · rw [if_pos h]
    have := rpack_in ao n cap width.toNat l w hl hn (by omega) hb hc
    rwa [Int.toNat_of_nonneg h.1] at this
  · rw [if_neg h]; exact rpack_out ao n cap width w (by omega)

end Go.Proofs.Ytlnlcmdbhkpnhaa
