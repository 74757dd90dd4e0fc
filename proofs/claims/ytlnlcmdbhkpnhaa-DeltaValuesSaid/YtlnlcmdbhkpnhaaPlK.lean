/- Chapter 11: the law's known; PlainSizes. -/
import Derived.Test.YtlnlcmdbhkpnhaaPlainE
import Derived.Test.YtlnlcmdbhkpnhaaBunA
namespace Go.Proofs.Ytlnlcmdbhkpnhaa
open Go.RowKit
set_option linter.unusedVariables false

def knownL : List Vl := [(1, ByteArray.empty), (0, ByteArray.empty), (1, ByteArray.empty)]
theorem knownL_packed : packed (knownL.map fun v => u64of v.1) 1 = [5] := by decide

/-- A call's fresh values, opened. -/
theorem FreshV.open_ {w w' : World} {E : TypeId} {v : Value} {l : List Vl} (h : FreshV w w' E v l) :
    ∃ ao n cap, v = .slice ao n cap ∧ Hid (l.length = n) ∧ n ≤ cap ∧ CellsAt w' w'.heap.size ao (n * 2) (vlc l) ∧ (ao = none → n = 0 ∧ cap = 0) := by
  obtain ⟨ao, cap, rfl, h1, h2, h3, h4, -⟩ := own_v h.1
  exact ⟨ao, _, cap, rfl, Lib.hid h1, h2, h3, h4⟩
theorem allV_sizes (k : Nat) (l : List Vl) : ∀ v ∈ allV k l, v.2.size ≤ 100 := by
  intro v hv
  obtain ⟨u, -, rfl⟩ := List.mem_map.1 hv
  unfold goodV
  split
  · exact Nat.zero_le _
  split
  · exact Nat.zero_le _
  split
  · exact Nat.zero_le _
  · simp only [ByteArray.size_extract]; omega
theorem allV_empty (k : Nat) (l : List Vl) (hk : k = 1 ∨ k = 2 ∨ k = 3) : ∀ v ∈ allV k l, v.2.size = 0 := by
  intro v hv
  obtain ⟨u, -, rfl⟩ := List.mem_map.1 hv
  unfold goodV
  rcases hk with rfl | rfl | rfl <;> rfl

/-- What the law's loop adds up. -/
def sumSz (c : Nat) (l : List Vl) : Nat := (l.map fun v => c + v.2.size).sum
theorem sumSz_snoc (c : Nat) (l : List Vl) (v : Vl) : sumSz c (l ++ [v]) = sumSz c l + (c + v.2.size) := by simp [sumSz]
theorem sumSz_le (c : Nat) (l : List Vl) (h : ∀ v ∈ l, v.2.size ≤ 100) (hc : c ≤ 8) : sumSz c l ≤ 108 * l.length := by
  induction l with
  | nil => simp [sumSz]
  | cons v l ih =>
    have h1 := h v (List.mem_cons_self ..)
    have h2 := ih (fun u hu => h u (List.mem_cons_of_mem _ hu))
    simp only [sumSz, List.map_cons, List.sum_cons, List.length_cons] at h2 ⊢
    omega
theorem encs_len4 (l : List Vl) : (encs 4 l).length = sumSz 4 l := by
  induction l with
  | nil => rfl
  | cons v l ih =>
    have := enc1_length 4 v
    simp only [encs, sumSz, List.map_cons, List.flatten_cons, List.length_append, List.sum_cons] at ih this ⊢
    rw [ih, this]; simp
theorem encs_lenk (k : Nat) (l : List Vl) (hk : k = 2 ∨ k = 3) (h : ∀ v ∈ l, v.2.size = 0) : (encs k l).length = sumSz (if k = 2 then 4 else 8) l := by
  induction l with
  | nil => rfl
  | cons v l ih =>
    have h1 := enc1_length k v
    have h2 := h v (List.mem_cons_self ..)
    have h3 := ih (fun u hu => h u (List.mem_cons_of_mem _ hu))
    simp only [encs, sumSz, List.map_cons, List.flatten_cons, List.length_append, List.sum_cons] at h3 ⊢
    rw [h3, h1, h2, if_neg (by omega), Nat.add_zero]
theorem packed1_length (l : List Nat) : (packed l 1).length = (l.length + 7) / 8 := by
  simp [packed, packTo, packSize]

end Go.Proofs.Ytlnlcmdbhkpnhaa
