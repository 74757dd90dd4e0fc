/- Slices of bytes and numbers: their types' rows, cells of rows of one's own, slice expressions. -/
import Derived.Test.YtlnlcmdbhkpnhaaApp
namespace Go.Proofs.Ytlnlcmdbhkpnhaa
open Go.RowKit Go.BigFrame
set_option linter.unusedVariables false

theorem Try.infoU8 : (Try.prog.info? 5).map (fun i => (i.zero, i.size, i.bytes)) = some (some (.int .u8 0), 1, 1) := by kernel_rfl
theorem Try.infoU64 : (Try.prog.info? 54).map (fun i => (i.zero, i.size, i.bytes)) = some (some (.int .u64 0), 1, 8) := by kernel_rfl
theorem sl_u8 : SlT Try.prog 26 5 1 1 (.int .u8 0) := ⟨Try.underlying26, Try.infoU8, rfl, by decide⟩
theorem sl_u64 : SlT Try.prog 70 54 1 8 (.int .u64 0) := ⟨Try.underlying70, Try.infoU64, rfl, by decide⟩
theorem range_u8c (l : List Nat) (n : Nat) (hl : l.length = n) : (List.range n).map (u8c l) = u8v l := by
  refine List.ext_getElem (by simp [u8v, hl]) fun i h1 h2 => ?_
  have hi : i < l.length := by simpa [u8v] using h2
  simp [u8v, u8c, hi]
theorem set_lt {l : List Nat} {j y : Nat} (h : ∀ x ∈ l, x < 256) (hy : y < 256) : ∀ x ∈ l.set j y, x < 256 := by
  intro x hx
  rcases List.mem_or_eq_of_mem_set hx with h1 | rfl
  · exact h x h1
  · exact hy
theorem getD_lt {l : List Nat} (h : ∀ x ∈ l, x < 256) (j : Nat) : l.getD j 0 < 256 := by
  rw [List.getD_eq_getElem?_getD]
  rcases Nat.lt_or_ge j l.length with hj | hj
  · rw [List.getElem?_eq_getElem hj]; exact h _ (List.getElem_mem _)
  · rw [List.getElem?_eq_none hj]; decide
theorem stored_u8 {w : World} {base E g n cap : Nat} {l : List Nat} {x : Int} {y : Nat} (h : w.ownsRow base E 1 (.slice (some ⟨g, 0, none⟩) n cap) n (u8v l)) (j : Nat) (e : x = (y : Nat)) :
    (w.setCell ⟨g, j, none⟩ (.int .u8 x)).ownsRow base E 1 (.slice (some ⟨g, 0, none⟩) n cap) n (u8v (l.set j y)) := by
  subst e
  rw [← u8v_set]
  exact (h.stored j _).1
theorem cell_u8 {w : World} {base E g n cap : Nat} {l : List Nat} (h : w.ownsRow base E 1 (.slice (some ⟨g, 0, none⟩) n cap) n (u8v l)) (j : Nat) (hj : j < n) :
    w.cell? ⟨g, j, none⟩ = some (u8c l j) := by
  have hl : l.length = n := by have := h.1; simpa [u8v_length] using this
  rw [h.cellAt j (by omega), u8v_at l j (by omega)]
theorem cells_one (w : World) (E : TypeId) (x : Value) : CellsAt (w.alloc (.cells #[x] E)) (w.alloc (.cells #[x] E)).heap.size (some ⟨w.heap.size, 0, none⟩) 1 (fun _ => x) :=
  cells_alloc w _ E 1 (fun _ => x) (fun i hi => by (obtain rfl : i = 0 := (by omega)); rfl)
theorem own_shape {w : World} {base E : Nat} {ao : Option Addr} {n cap : Nat} {xs : List Value} (h0 : 0 < n) (h : w.ownsRow base E 1 (.slice ao n cap) n xs) : ∃ g, ao = some ⟨g, 0, none⟩ ∧ base ≤ g := by
  rcases h.2 with ⟨-, h3⟩ | ⟨g, c2, cur, h3, hb, -⟩
  · omega
  · simp only [Value.slice.injEq] at h3
    exact ⟨g, h3.1, hb⟩
theorem u8c_drop (l : List Nat) (m i : Nat) : u8c (l.drop m) i = u8c l (m + i) := by
  simp [u8c, List.getD_eq_getElem?_getD]
theorem u8c_take (l : List Nat) (m i : Nat) (h : i < m) : u8c (l.take m) i = u8c l i := by
  simp [u8c, List.getD_eq_getElem?_getD, h]
theorem drop_cells {w : World} {B : Nat} {ao : Option Addr} {n p m : Nat} {l : List Nat} (h : CellsAt w B ao n (u8c l)) (hp : p + m ≤ n) : CellsAt w B (ao.map (·.add p)) m (u8c ((l.drop p).take m)) := by
  intro i hi
  obtain ⟨b, off, rfl, hb, hc⟩ := h (p + i) (by omega)
  refine ⟨b, off + p, by simp [Addr.add_lit], hb, ?_⟩
  rw [u8c_take _ _ _ hi, u8c_drop, ← hc, Nat.add_assoc]
theorem own_drewN {w : World} {base : Nat} {e : TypeId} {size : Nat} {v : Value} {n : Nat} {xs : List Value} (h : w.ownsRow base e size v n xs) (k : Nat) : (w.drewN k).ownsRow base e size v n xs := by
  refine ⟨h.1, h.2.imp id fun ⟨g, cap, cur, h1, h2, h3, h4⟩ => ⟨g, cap, cur, h1, h2, ?_, h4⟩⟩
  rw [← h3]; rfl
set_option maxRecDepth 100000 in
theorem slice_lh (a : Option Addr) (len cap p n : Nat) (hcap : p + n ≤ cap) :
    ∃ ao', (n = 0 ∨ ao' = a.map (·.add p)) ∧ ∀ w : World, (Instr.sliceAt 26 (.slice a len cap) (some (.int .i64 (p : Nat))) (some (.int .i64 ((p : Int) + (n : Int)))) none).run Try.prog w = .ok (.slice ao' n (cap - p)) w := by
  refine ⟨if cap = p then a else a.map (·.add (p * 1)), ?_, fun w => ?_⟩
  · by_cases h : cap = p
    · exact .inl (by omega)
    · rw [if_neg h, Nat.mul_one]; exact .inr rfl
  · have e : ((p : Int) + (n : Int)).toNat = p + n := by omega
    have h := run_slice_lh (P := Try.prog) (w := w) 26 a len cap Try.underlying26 .i64 .i64 (p : Int) ((p : Int) + (n : Int)) (by omega) (by omega) (by omega)
    rw [run_sliceAt_slice (P := Try.prog) w _ _ _ _ _ Try.underlying26, h, e, Int.toNat_natCast]
    have hs : (sizeOf (Try.prog.elem 26)).run Try.prog w = .ok 1 w := by kernel_rfl
    rw [hs]
    simp [Result.andThen, sliced, Nat.add_sub_cancel_left]
set_option maxRecDepth 100000 in
theorem slice_from (a : Option Addr) (len cap p : Nat) (hp : p ≤ len) (hcap : len ≤ cap) :
    ∃ ao', (len - p = 0 ∨ ao' = a.map (·.add p)) ∧ ∀ w : World, (Instr.sliceAt 26 (.slice a len cap) (some (.int .i64 (p : Nat))) none none).run Try.prog w = .ok (.slice ao' (len - p) (cap - p)) w := by
  refine ⟨if cap = p then a else a.map (·.add (p * 1)), ?_, fun w => ?_⟩
  · by_cases h : cap = p
    · exact .inl (by omega)
    · rw [if_neg h, Nat.mul_one]; exact .inr rfl
  · have h := run_slice_l (P := Try.prog) (w := w) 26 a len cap Try.underlying26 .i64 (p : Int) (by omega) (by omega)
    rw [run_sliceAt_slice (P := Try.prog) w _ _ _ _ _ Try.underlying26, h, Int.toNat_natCast]
    have hs : (sizeOf (Try.prog.elem 26)).run Try.prog w = .ok 1 w := by kernel_rfl
    rw [hs]
    simp [Result.andThen, sliced]
end Go.Proofs.Ytlnlcmdbhkpnhaa
