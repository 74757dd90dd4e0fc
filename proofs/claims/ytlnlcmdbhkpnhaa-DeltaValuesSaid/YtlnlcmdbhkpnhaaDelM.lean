/- Chapter 12: what the laws have in common. -/
import Derived.Test.YtlnlcmdbhkpnhaaDelK
import Derived.Test.YtlnlcmdbhkpnhaaDelS
import Derived.Test.YtlnlcmdbhkpnhaaDelRD
import Derived.Test.YtlnlcmdbhkpnhaaBunA
import Derived.Test.YtlnlcmdbhkpnhaaRPut
import Derived.BigQuiet
namespace Go.Proofs.Ytlnlcmdbhkpnhaa
open Go.RowKit
set_option linter.unusedVariables false

theorem dIntsB_lt (l : List Int) (h : ∀ x ∈ l, inI64 x) : ∀ x ∈ dIntsB l, x < 256 := by
  intro x hx
  unfold dIntsB at hx
  split at hx
  · simp at hx
  · rename_i hl
    have h0 : 0 < l.length := List.length_pos_iff.2 hl
    rcases List.mem_append.1 hx with h1 | h1
    · refine vputB_lt _ (zigN_lt _ (h _ ?_)) x h1
      rw [List.getD_eq_getElem?_getD, List.getElem?_eq_getElem h0]; exact List.getElem_mem _
    · simp only [blocksB, List.mem_flatten, List.mem_map, chunks, List.mem_range] at h1
      obtain ⟨b, ⟨c, ⟨j, hj, rfl⟩, rfl⟩, hb⟩ := h1
      refine blockB_lt _ ?_ ?_ x hb
      · rw [chunk_length']; unfold nBlocks at hj; omega
      · intro y hy; exact diffs_in l y (List.mem_of_mem_drop (List.mem_of_mem_take hy))
theorem GaveRead.opened {w w' : World} {r : List Int × Nat × Nat} {e : Ending} (h : GaveRead w r e w') :
    ∃ ao n cap, e = .returned (.tuple #[.slice ao n cap, .int .i64 (r.2.1 : Nat), .int .i64 (r.2.2 : Nat)]) ∧ Hid (r.1.length = n) ∧ CellsAt w' w'.heap.size ao n (i64c r.1) ∧ Below w.heap.size w w' := by
  obtain ⟨v, rfl, ho, hb⟩ := h
  obtain ⟨ao, cap, rfl, hc, -⟩ := own_i64 ho
  exact ⟨ao, _, cap, rfl, Lib.hid rfl, hc, hb⟩
set_option maxHeartbeats 1000000 in
set_option maxRecDepth 100000 in
theorem lints_same (ao1 ao2 : Option Addr) (n cap1 cap2 : Nat) (f : Nat → Int) (w : World) (hn : n ≤ 100000) (h1 : CellsAt w w.heap.size ao1 n (fun i => .int .i64 (f i))) (h2 : CellsAt w w.heap.size ao2 n (fun i => .int .i64 (f i))) :
    Calls Try.prog 19 #[.slice ao1 n cap1, .slice ao2 n cap2] w fun e w' => e = .returned (.bool true) ∧ ∃ m, w' = w.drewN m := by
  have H1 := Lib.hid h1; have H2 := Lib.hid h2
  clear h1 h2
  go_enter Try.func19, Try.ntmps19
  go_wp2
  go_loopw [5] (fun i wr => ∃ k m : Nat, k ≤ n ∧ i = .int .i64 (k : Nat) ∧ wr = w.drewN m) (fun i _ => n - (intOf i).toNat)
  case atStart => exact ⟨0, 0, Nat.zero_le _, rfl, rfl⟩
  case round =>
    obtain ⟨k, m, hk, rfl, rfl⟩ := hrel
    by_cases hkn : k < n
    · obtain ⟨b1, o1, rfl, -, c1⟩ := H1.out k hkn
      obtain ⟨b2, o2, rfl, -, c2⟩ := H2.out k hkn
      obtain ⟨x, hx⟩ : ∃ x, x = f k := ⟨_, rfl⟩
      dsimp only at c1 c2
      rw [← hx] at c1 c2
      have e1 : (k : Int) < (n : Int) := by omega
      have e2 : (0 : Int) ≤ (k : Int) := by omega
      clear hx
      go_wp2
      go_quiet (fail)
      go_wp2
      go_roundw
      case rel => exact ⟨k + 1, m + nq, by omega, by go_num, rfl⟩
      case measure => simp [intOf]; omega
    · obtain rfl : k = n := by omega
      go_wp2
      go_ret
      exact ⟨rfl, m, rfl⟩
theorem ints_eq (ao1 ao2 : Option Addr) (n cap1 cap2 : Nat) (l : List Int) (w : World) (hn : n ≤ 100000) (h1 : CellsAt w w.heap.size ao1 n (i64c l)) (h2 : CellsAt w w.heap.size ao2 n (i64c l)) :
    Calls Try.prog 19 #[.slice ao1 n cap1, .slice ao2 n cap2] w fun e w' => e = .returned (.bool true) ∧ ∃ m, w' = w.drewN m :=
  lints_same ao1 ao2 n cap1 cap2 (fun i => l.getD i 0) w hn h1 h2
/-- Bytes as a text, in whatever world has grown out of this one. -/
theorem conv_grown {w : World} {ao : Option Addr} {n cap : Nat} {l : List Nat} (hl : l.length = n) (hc : CellsAt w w.heap.size ao n (u8c l)) (hn : ao = none → n = 0) :
    ∀ w', Grows w w' → (convert 26 9 (.slice ao n cap)).run Try.prog w' = .ok (.string (strOf l)) w' := fun w' h =>
  run_string_of (P := Try.prog) 26 5 9 Try.underlying26 Try.underlying5 Try.underlying9 hl (h.cells hc) hn
theorem Cloned.cap {w w' : World} {E : TypeId} {ao ao' : Option Addr} {m cap' : Nat} {f : Nat → Value} (h : Cloned w w' E ao ao' m cap' f) : m ≤ cap' := by
  rcases h with ⟨h, -⟩ | ⟨h0, h⟩
  · omega
  · rcases h.2 with ⟨-, h3⟩ | ⟨g, c2, cur, h3, -, -, h4, -⟩
    · omega
    · simp only [Value.slice.injEq] at h3; omega
end Go.Proofs.Ytlnlcmdbhkpnhaa
