/- Chapter 12: what the laws have in common. -/
import Derived.Test.YtebmbkbnngeabaaGreatBunB
import Derived.Test.YtebmbkbnngeabaaGreatBunC
import Derived.Test.YtebmbkbnngeabaaGreatBunA
import Derived.Test.YtebmbkbnngeabaaGreatDelRD
import Derived.BigQuiet
set_option linter.unusedSimpArgs false
namespace Go.Proofs.YtebmbkbnngeabaaGreat
open Go.RowKit
set_option linter.unusedVariables false
theorem dIntsB_lt (l : List Int) (h : ∀ x ∈ l, inI64 x) : ∀ x ∈ dIntsB l, x < 256 := by
 intro x hx
 unfold dIntsB at hx
 split at hx
 · simp at hx
 · rename_i hl
   have h0 : 0 < l.length := List.length_pos_iff.2 hl
   rcases List.mem_append.1 hx with h1 | h1
   · refine vputB_lt _ (zigN_lt _ (h _ ?_)) x h1
     rw [List.getD_eq_getElem?_getD, List.getElem?_eq_getElem h0]; exact List.getElem_mem _
   · simp only [blocksB, List.mem_flatten, List.mem_map, chunks, List.mem_range] at h1
     obtain ⟨b, ⟨c, ⟨j, hj, rfl⟩, rfl⟩, hb⟩ := h1
     refine blockB_lt _ ?_ ?_ x hb
     · rw [chunk_length']; unfold nBlocks at hj; omega
     · intro y hy; exact diffs_in l y (List.mem_of_mem_drop (List.mem_of_mem_take hy))
theorem GaveRead.opened {w w' : World} {r : List Int × Nat × Nat} {e : Ending} (h : GaveRead w r e w') :
 ∃ ao n cap, e = .returned (.tuple #[.slice ao n cap, .int .i64 (r.2.1 : Nat), .int .i64 (r.2.2 : Nat)]) ∧ Hid (r.1.length = n) ∧ CellsAt w' w'.heap.size ao n (i64c r.1) ∧ Below w.heap.size w w' := by
 obtain ⟨v, rfl, ho, hb⟩ := h
 obtain ⟨ao, cap, rfl, hc, -⟩ := own_i64 ho
 exact ⟨ao, _, cap, rfl, Lib.hid rfl, hc, hb⟩
end Go.Proofs.YtebmbkbnngeabaaGreat
