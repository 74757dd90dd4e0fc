/- What a law's slices of integers that come in say in XMem's words. No program. -/
import Derived.Test.YtlnlcmdbhkpnhaaMem
import Derived.OpenShut
namespace Go.Proofs.Ytlnlcmdbhkpnhaa
set_option linter.unusedVariables false
open Go.RowKit

/-- A slice of integers that came in: nil, or it leads to a row of 'cap' cells. (As the guide's proof-skeleton has it.) -/
def IsRow (k : IntKind) (w : World) (a : Option Addr) (len cap : Nat) (zs : List Int) : Prop :=
  (a = none ∧ len = 0 ∧ cap = 0 ∧ zs = []) ∨
  ∃ x, a = some x ∧ len ≤ cap ∧ cap ≤ maxLen ∧ zs.length = cap ∧ (∀ i, i < zs.length → w.cell? (x.add i) = some (.int k (zs.getD i 0))) ∧ ∀ n ∈ zs, (Lit.int k n).wf = true

theorem cell_spot {w : World} {a : Addr} {v : Value} (h : w.cell? a = some v) : a.spot = none := by
  unfold World.cell? at h
  split at h
  · split at h
    · cases h
    · rename_i hs; simpa using hs
  · cases h

theorem IsRow.open_ {k : IntKind} {w : World} {a : Option Addr} {len cap : Nat} {zs : List Int} (h : IsRow k w a len cap zs) :
    len ≤ cap ∧ cap ≤ maxLen ∧ (a = none → len = 0 ∧ cap = 0) ∧ (zs.take len).length = len ∧ (∀ n ∈ zs.take len, (Lit.int k n).wf = true) ∧ CellsAt w w.heap.size a len (fun i => .int k ((zs.take len).getD i 0)) := by
  rcases h with ⟨rfl, rfl, rfl, rfl⟩ | ⟨x, rfl, hl, hm, hz, hc, hwf⟩
  · exact ⟨Nat.le_refl _, Nat.zero_le _, fun _ => ⟨rfl, rfl⟩, rfl, fun n hn => absurd hn (by simp), CellsAt.zero⟩
  · refine ⟨hl, hm, fun e => (by cases e), by rw [List.length_take]; omega, fun n hn => hwf n (List.mem_of_mem_take hn), fun i hi => ?_⟩
    have hx := hc i (by omega)
    have h0 := hc 0 (by omega)
    have hs : x.spot = none := cell_spot (by simpa [Addr.add] using h0)
    obtain ⟨b, off, spot⟩ := x
    simp only at hs
    subst hs
    rw [Addr.add_lit] at hx
    refine ⟨b, off, rfl, World.block_lt_of_cell? w _ hx, ?_⟩
    rw [hx]
    simp [List.getD_eq_getElem?_getD, List.getElem?_take, hi]

theorem toNats_getD (zs : List Int) (h : ∀ n ∈ zs, 0 ≤ n) (i : Nat) : (((zs.map Int.toNat).getD i 0 : Nat) : Int) = zs.getD i 0 := by
  simp only [List.getD_eq_getElem?_getD, List.getElem?_map]
  rcases Nat.lt_or_ge i zs.length with hi | hi
  · rw [List.getElem?_eq_getElem hi]
    have := h _ (List.getElem_mem hi)
    simp; omega
  · rw [List.getElem?_eq_none hi]; rfl

theorem IsRow.u64 {w : World} {a : Option Addr} {len cap : Nat} {zs : List Int} (h : IsRow .u64 w a len cap zs) :
    ∃ l : List Nat, l.length = len ∧ (∀ x ∈ l, x < 18446744073709551616) ∧ CellsAt w w.heap.size a len (u64c l) ∧ (a = none → len = 0) ∧ len ≤ 9223372036854775807 := by
  obtain ⟨h1, h2, h3, h4, h5, h6⟩ := h.open_
  refine ⟨(zs.take len).map Int.toNat, by rw [List.length_map]; exact h4, fun x hx => ?_, h6.congr fun i hi => ?_, fun e => (h3 e).1, by unfold maxLen at h2; omega⟩
  · obtain ⟨n, hn, rfl⟩ := List.mem_map.1 hx
    have := bounds_u64 (h5 n hn); omega
  · rw [u64c, toNats_getD _ (fun n hn => (bounds_u64 (h5 n hn)).1)]
theorem IsRow.u8 {w : World} {a : Option Addr} {len cap : Nat} {zs : List Int} (h : IsRow .u8 w a len cap zs) :
    ∃ l : List Nat, l.length = len ∧ (∀ x ∈ l, x < 256) ∧ CellsAt w w.heap.size a len (u8c l) ∧ (a = none → len = 0) ∧ len ≤ 9223372036854775807 := by
  obtain ⟨h1, h2, h3, h4, h5, h6⟩ := h.open_
  refine ⟨(zs.take len).map Int.toNat, by rw [List.length_map]; exact h4, fun x hx => ?_, h6.congr fun i hi => ?_, fun e => (h3 e).1, by unfold maxLen at h2; omega⟩
  · obtain ⟨n, hn, rfl⟩ := List.mem_map.1 hx
    have := bounds_u8 (h5 n hn); omega
  · rw [u8c, toNats_getD _ (fun n hn => (bounds_u8 (h5 n hn)).1)]
theorem IsRow.i64 {w : World} {a : Option Addr} {len cap : Nat} {zs : List Int} (h : IsRow .i64 w a len cap zs) :
    ∃ l : List Int, l.length = len ∧ (∀ x ∈ l, -9223372036854775808 ≤ x ∧ x ≤ 9223372036854775807) ∧ CellsAt w w.heap.size a len (i64c l) ∧ (a = none → len = 0) ∧ len ≤ 9223372036854775807 := by
  obtain ⟨h1, h2, h3, h4, h5, h6⟩ := h.open_
  exact ⟨zs.take len, h4, fun x hx => bounds_i64 (h5 x hx), h6, fun e => (h3 e).1, by unfold maxLen at h2; omega⟩
end Go.Proofs.Ytlnlcmdbhkpnhaa
