/- Chapter 12: the law package's known. -/
import Derived.Test.YtlnlcmdbhkpnhaaDelC2
import Derived.Test.YtlnlcmdbhkpnhaaBunA
namespace Go.Proofs.Ytlnlcmdbhkpnhaa
open Go.RowKit
set_option linter.unusedVariables false

theorem known_bytes : dIntsB [5, 6, 7] = [10, 2, 0] := by decide
set_option maxHeartbeats 1000000 in
theorem known_any (w : World) :
    Calls Try.prog 12 #[] w fun e w' => e = .returned (.bool true) ∧ Below w.heap.size w w' := by
  go_enter Try.func12, Try.ntmps12
  go_wp2_with fail
  refine (dInts_any _ 3 _ [5, 6, 7] _ rfl (by decide) (cells_alloc w _ _ 3 (i64c [5, 6, 7]) (fun i hi => by match i, hi with | 0, _ => rfl | 1, _ => rfl | 2, _ => rfl)) (fun x hx => by simp only [List.mem_cons, List.not_mem_nil, or_false] at hx; rcases hx with rfl | rfl | rfl <;> exact ⟨by decide, by decide⟩)).mono ?_
  rw [known_bytes]
  intro e w1 hg
  obtain ⟨ao, n, cap, rfl, hn, hc, -, -, hb⟩ := hg.opened
  obtain rfl : n = 3 := hn.out.symm
  obtain ⟨b, off, rfl, -, h0⟩ := hc 0 (by decide)
  obtain ⟨_, _, e1, -, h1⟩ := hc 1 (by decide)
  cases e1
  obtain ⟨_, _, e2, -, h2⟩ := hc 2 (by decide)
  cases e2
  have h0' : w1.cell? ⟨b, off + 0, none⟩ = some (.int .u8 10) := h0
  have h1' : w1.cell? ⟨b, off + 1, none⟩ = some (.int .u8 2) := h1
  have h2' : w1.cell? ⟨b, off + 2, none⟩ = some (.int .u8 0) := h2
  rw [Nat.add_zero] at h0'
  have hb' : Hid (Below w.heap.size w w1) := Lib.hid (bmore (balloc (Below.refl _ _) _) hb)
  clear h0 h1 h2 hc hg hb hn
  go_wp2
  go_ret
  exact ⟨rfl, hb'.out⟩
end Go.Proofs.Ytlnlcmdbhkpnhaa
