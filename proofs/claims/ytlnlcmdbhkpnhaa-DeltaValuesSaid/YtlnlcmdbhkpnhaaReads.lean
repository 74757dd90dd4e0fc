/- What the laws that read spoilt bytes have in common: a row of bytes whatever they are; rows of such rows. -/
import Derived.Test.YtlnlcmdbhkpnhaaCurW
import Derived.Test.YtlnlcmdbhkpnhaaBunB
namespace Go.Proofs.Ytlnlcmdbhkpnhaa
open Go.RowKit
set_option linter.unusedVariables false

/-- A row of bytes of one's own, whatever they are. -/
def RowX (w : World) (base : Nat) (ao : Option Addr) (n cap : Nat) : Prop := ∃ l : List Nat, (∀ x ∈ l, x < 256) ∧ RowB w base ao n cap l
theorem RowX.below {w w' : World} {base : Nat} {ao : Option Addr} {n cap : Nat} (h : RowX w base ao n cap) (hb : Below w.heap.size w w') : RowX w' base ao n cap := by
  obtain ⟨l, h1, h2, h3⟩ := h
  refine ⟨l, h1, h2, h3.imp id fun x => ⟨x.1, ?_⟩⟩
  exact ⟨x.2.1, x.2.2.imp id fun ⟨g, cap, cur, h1, h2, h3, h4⟩ => ⟨g, cap, cur, h1, h2, (hb.block g (Array.getElem?_eq_some_iff.1 h3).1).trans h3, h4⟩⟩
theorem RowX.drew {w : World} {base : Nat} {ao : Option Addr} {n cap : Nat} (h : RowX w base ao n cap) : RowX w.drew base ao n cap := h.below (Below.refl _ _).drew
/-- Opened where it is not empty: its cells, and what becomes of a store. -/
theorem RowX.pos {w : World} {base : Nat} {ao : Option Addr} {n cap : Nat} (h : RowX w base ao n cap) (h0 : 0 < n) :
    ∃ g, ao = some ⟨g, 0, none⟩ ∧ base ≤ g ∧ (∀ j, j < n → ∃ y : Nat, y < 256 ∧ w.cell? ⟨g, j, none⟩ = some (.int .u8 (y : Nat)) ∧ w.frozen? ⟨g, j, none⟩ = false) ∧
      (∀ j (x : Int), j < n → 0 ≤ x → x < 256 → RowX (w.setCell ⟨g, j, none⟩ (.int .u8 x)) base (some ⟨g, 0, none⟩) n cap) := by
  obtain ⟨l, h1, hl, h2⟩ := h
  rcases h2 with ⟨h2, -⟩ | ⟨-, ho⟩
  · omega
  · obtain ⟨g, rfl, hg⟩ := own_shape h0 ho
    refine ⟨g, rfl, hg, fun j hj => ⟨l.getD j 0, getD_lt h1 j, cell_u8 ho j hj, ho.frozenAt j⟩, fun j x hj hx0 hx => ⟨l.set j x.toNat, set_lt h1 (by omega), by simp [hl], .inr ⟨h0, stored_u8 ho j (by omega)⟩⟩⟩
theorem RowX.bytes {w : World} {base : Nat} {ao : Option Addr} {n cap : Nat} (h : RowX w base ao n cap) :
    ∃ l : List Nat, l.length = n ∧ (∀ x ∈ l, x < 256) ∧ CellsAt w w.heap.size ao n (u8c l) ∧ (ao = none → n = 0) ∧ n ≤ cap := by
  obtain ⟨l, h1, h2⟩ := h
  exact ⟨l, h2.1, h1, h2.cells, h2.nil0, h2.cap⟩

/-- Bytes that lie somewhere, whatever they are. -/
def BytesX (w : World) (ao : Option Addr) (n : Nat) : Prop := ∃ l : List Nat, l.length = n ∧ (∀ x ∈ l, x < 256) ∧ CellsAt w w.heap.size ao n (u8c l) ∧ (ao = none → n = 0)
theorem BytesX.below {w w' : World} {ao : Option Addr} {n : Nat} (h : BytesX w ao n) (hb : Below w.heap.size w w') : BytesX w' ao n :=
  let ⟨l, h1, h2, h3, h4⟩ := h; ⟨l, h1, h2, h3.at hb, h4⟩
theorem BytesX.take {w : World} {ao : Option Addr} {n m : Nat} (h : BytesX w ao n) (hm : m ≤ n) : BytesX w ao m :=
  let ⟨l, h1, h2, h3, h4⟩ := h
  ⟨l.take m, by rw [List.length_take]; omega, fun x hx => h2 x (List.mem_of_mem_take hx), (h3.take hm).congr (fun i hi => (u8c_take _ _ _ hi).symm), fun e => by have := h4 e; omega⟩
/-- A block of slices of bytes, each of at most top ones. -/
def RowsX (w : World) (g m top : Nat) : Prop := ∀ i, i < m → ∃ ao n cap, w.cell? ⟨g, i, none⟩ = some (.slice ao n cap) ∧ n ≤ top ∧ BytesX w ao n
theorem RowsX.below {w w' : World} {g m top : Nat} (h : RowsX w g m top) (hb : Below w.heap.size w w') : RowsX w' g m top := fun i hi =>
  let ⟨ao, n, cap, h1, h2, h3⟩ := h i hi; ⟨ao, n, cap, Grows.cell hb h1, h2, h3.below hb⟩
/-- A block of numbers. -/
def NumsX (w : World) (g m : Nat) : Prop := ∀ i, i < m → ∃ k : Int, w.cell? ⟨g, i, none⟩ = some (.int .i64 k) ∧ -9223372036854775808 ≤ k ∧ k ≤ 9223372036854775807
theorem NumsX.below {w w' : World} {g m : Nat} (h : NumsX w g m) (hb : Below w.heap.size w w') : NumsX w' g m := fun i hi =>
  let ⟨k, h1, h2⟩ := h i hi; ⟨k, Grows.cell hb h1, h2⟩
theorem slices4 {w : World} {T : TypeId} {top : Nat} {a0 a1 a2 a3 : Option Addr} {n0 n1 n2 n3 c0 c1 c2 c3 : Nat} (h0 : BytesX w a0 n0) (h1 : BytesX w a1 n1) (h2 : BytesX w a2 n2) (h3 : BytesX w a3 n3)
    (t0 : n0 ≤ top) (t1 : n1 ≤ top) (t2 : n2 ≤ top) (t3 : n3 ≤ top) : RowsX (w.alloc (.cells #[.slice a0 n0 c0, .slice a1 n1 c1, .slice a2 n2 c2, .slice a3 n3 c3] T)) w.heap.size 4 top := by
  have hb := balloc (Below.refl w.heap.size w) (.cells #[.slice a0 n0 c0, .slice a1 n1 c1, .slice a2 n2 c2, .slice a3 n3 c3] T)
  intro i hi
  match i, hi with
  | 0, _ => exact ⟨a0, n0, c0, by simp [go_sem], t0, h0.below hb⟩
  | 1, _ => exact ⟨a1, n1, c1, by simp [go_sem], t1, h1.below hb⟩
  | 2, _ => exact ⟨a2, n2, c2, by simp [go_sem], t2, h2.below hb⟩
  | 3, _ => exact ⟨a3, n3, c3, by simp [go_sem], t3, h3.below hb⟩
theorem slices3 {w : World} {T : TypeId} {top : Nat} {a0 a1 a2 : Option Addr} {n0 n1 n2 c0 c1 c2 : Nat} (h0 : BytesX w a0 n0) (h1 : BytesX w a1 n1) (h2 : BytesX w a2 n2)
    (t0 : n0 ≤ top) (t1 : n1 ≤ top) (t2 : n2 ≤ top) : RowsX (w.alloc (.cells #[.slice a0 n0 c0, .slice a1 n1 c1, .slice a2 n2 c2] T)) w.heap.size 3 top := by
  have hb := balloc (Below.refl w.heap.size w) (.cells #[.slice a0 n0 c0, .slice a1 n1 c1, .slice a2 n2 c2] T)
  intro i hi
  match i, hi with
  | 0, _ => exact ⟨a0, n0, c0, by simp [go_sem], t0, h0.below hb⟩
  | 1, _ => exact ⟨a1, n1, c1, by simp [go_sem], t1, h1.below hb⟩
  | 2, _ => exact ⟨a2, n2, c2, by simp [go_sem], t2, h2.below hb⟩
theorem nums3 {w : World} {T : TypeId} {k0 k1 k2 : Int} (h0 : -9223372036854775808 ≤ k0 ∧ k0 ≤ 9223372036854775807) (h1 : -9223372036854775808 ≤ k1 ∧ k1 ≤ 9223372036854775807) (h2 : -9223372036854775808 ≤ k2 ∧ k2 ≤ 9223372036854775807) :
    NumsX (w.alloc (.cells #[.int .i64 k0, .int .i64 k1, .int .i64 k2] T)) w.heap.size 3 := by
  intro i hi
  match i, hi with
  | 0, _ => exact ⟨k0, by simp [go_sem], h0⟩
  | 1, _ => exact ⟨k1, by simp [go_sem], h1⟩
  | 2, _ => exact ⟨k2, by simp [go_sem], h2⟩
theorem nums2 {w : World} {T : TypeId} {k0 k1 : Int} (h0 : -9223372036854775808 ≤ k0 ∧ k0 ≤ 9223372036854775807) (h1 : -9223372036854775808 ≤ k1 ∧ k1 ≤ 9223372036854775807) :
    NumsX (w.alloc (.cells #[.int .i64 k0, .int .i64 k1] T)) w.heap.size 2 := by
  intro i hi
  match i, hi with
  | 0, _ => exact ⟨k0, by simp [go_sem], h0⟩
  | 1, _ => exact ⟨k1, by simp [go_sem], h1⟩
theorem tdivk' (a : Int) (k : Nat) (hk : 0 < k) (h : -9223372036854775808 ≤ a ∧ a ≤ 9223372036854775807) : -9223372036854775808 ≤ a.tdiv k ∧ a.tdiv k ≤ 9223372036854775807 := by
  rcases Int.lt_or_le a 0 with hn | hn
  · have h5 : a.tdiv k ≤ 0 := by
      have h7 : (-(-a)).tdiv k = -((-a).tdiv k) := Int.neg_tdiv ..
      have h8 : 0 ≤ (-a).tdiv k := Int.tdiv_nonneg (by omega) (by omega)
      rw [Int.neg_neg] at h7
      omega
    have h6 : a ≤ a.tdiv k := by
      have h7 : (-(-a)).tdiv k = -((-a).tdiv k) := Int.neg_tdiv ..
      have h8 : (-a).tdiv k ≤ -a := Int.tdiv_le_self k (by omega)
      rw [Int.neg_neg] at h7
      omega
    omega
  · have h5 := Int.tdiv_nonneg hn (show (0 : Int) ≤ (k : Int) by omega)
    have h6 : a.tdiv k ≤ a := Int.tdiv_le_self k hn
    omega
end Go.Proofs.Ytlnlcmdbhkpnhaa
