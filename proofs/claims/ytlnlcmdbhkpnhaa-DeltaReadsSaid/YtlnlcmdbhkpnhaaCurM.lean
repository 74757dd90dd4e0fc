/- Words on memory where one block is written: a reader's. slices.Clone of bytes. -/
import Derived.Test.YtlnlcmdbhkpnhaaApp
namespace Go.Proofs.Ytlnlcmdbhkpnhaa
open Go.RowKit
set_option linter.unusedVariables false

/-- All that was there is as it was, but for block g. -/
structure But (g : Nat) (w w' : World) : Prop where
  os : w'.os = w.os
  tape : w'.tape = w.tape
  output : w'.output = w.output
  size : w.heap.size ≤ w'.heap.size
  block : ∀ k, k < w.heap.size → k ≠ g → w'.heap[k]? = w.heap[k]?
theorem But.below {g B : Nat} {w w1 w2 : World} (h : Below B w w1) (k : But g w1 w2) (hg : B ≤ g) (hB : B ≤ w1.heap.size) : Below B w w2 :=
  h.trans ⟨k.os, k.tape, k.output, k.size, fun j hj => k.block j (by omega) (by omega)⟩
theorem But.trans {g : Nat} {a b c : World} (h : But g a b) (k : But g b c) : But g a c :=
  ⟨k.os.trans h.os, k.tape.trans h.tape, k.output.trans h.output, Nat.le_trans h.size k.size, fun j hj hn => (k.block j (Nat.lt_of_lt_of_le hj h.size) hn).trans (h.block j hj hn)⟩
theorem But.refl (g : Nat) (w : World) : But g w w := ⟨rfl, rfl, rfl, Nat.le_refl _, fun _ _ _ => rfl⟩
theorem But.of {g : Nat} {w w' : World} (h : Below w.heap.size w w') : But g w w' := ⟨h.os, h.tape, h.output, h.size, fun j hj _ => h.block j hj⟩
theorem But.cell {g : Nat} {w w' : World} (h : But g w w') {a : Addr} (hb : a.block < w.heap.size) (hn : a.block ≠ g) : w'.cell? a = w.cell? a := by
  unfold World.cell?
  rw [h.block a.block hb hn]
theorem But.cells {g B : Nat} {w w' : World} (h : But g w w') {ao : Option Addr} {n : Nat} {f : Nat → Value} (hB : B ≤ w.heap.size) (hg : B ≤ g) (hc : CellsAt w B ao n f) : CellsAt w' B ao n f := fun i hi =>
  let ⟨b, off, e, hlt, hx⟩ := hc i hi; ⟨b, off, e, hlt, (h.cell (show b < w.heap.size by omega) (show b ≠ g by omega)).trans hx⟩

/-- A reader of the code: what is left, its error; its bytes lie from block lo on. -/
def Rd (w : World) (g lo : Nat) (l : List Nat) (e : Nat) : Prop :=
  ∃ ao cap, w.heap[g]? = some (.cells #[.slice ao l.length cap, .int .i64 (e : Nat)] 107) ∧ CellsAt w g ao l.length (u8c l) ∧ (ao = none → l.length = 0) ∧ l.length ≤ cap ∧ (0 < l.length → ∀ a, ao = some a → lo ≤ a.block)
theorem Rd.lt {w : World} {g lo : Nat} {l : List Nat} {e : Nat} (h : Rd w g lo l e) : g < w.heap.size := by
  obtain ⟨ao, cap, h, -⟩ := h
  exact (Array.getElem?_eq_some_iff.1 h).1
theorem Rd.below {w w' : World} {g lo B : Nat} {l : List Nat} {e : Nat} (h : Rd w g lo l e) (hb : Below B w w') (hg : g < B) : Rd w' g lo l e := by
  obtain ⟨ao, cap, h1, h2, h3⟩ := h
  refine ⟨ao, cap, (hb.block g hg).trans h1, fun i hi => ?_, h3⟩
  obtain ⟨b, off, e, hlt, hc⟩ := h2 i hi
  exact ⟨b, off, e, hlt, (hb.cell (show b < B by omega)).trans hc⟩
theorem Rd.keep {w w' : World} {g lo : Nat} {l : List Nat} {e : Nat} (h : Rd w g lo l e) (hb : Below w.heap.size w w') : Rd w' g lo l e := h.below hb h.lt
theorem Rd.but {w w' : World} {g lo g' : Nat} {l : List Nat} {e : Nat} (h : Rd w g lo l e) (hb : But g' w w') (hg : g < g' ∨ g' < lo ∧ g' < g) : Rd w' g lo l e := by
  have hlt := h.lt
  obtain ⟨ao, cap, h1, h2, h3, h4, h5⟩ := h
  refine ⟨ao, cap, (hb.block g hlt (by omega)).trans h1, fun i hi => ?_, h3, h4, h5⟩
  obtain ⟨b, off, rfl, hbg, hc⟩ := h2 i hi
  have := h5 (by omega) _ rfl
  simp only at this
  exact ⟨b, off, rfl, hbg, (hb.cell (show b < w.heap.size by omega) (show b ≠ g' by omega)).trans hc⟩
/-- A block of two cells. -/
theorem two_cells {w : World} {g T : Nat} {a b : Value} (h : w.heap[g]? = some (.cells #[a, b] T)) :
    w.cell? ⟨g, 0, none⟩ = some a ∧ w.cell? ⟨g, 1, none⟩ = some b ∧ w.frozen? ⟨g, 0, none⟩ = false ∧ w.frozen? ⟨g, 1, none⟩ = false := by
  refine ⟨?_, ?_, ?_, ?_⟩ <;> simp [World.cell?, World.frozen?, h]
theorem two_set0 {w : World} {g T : Nat} {a b : Value} (h : w.heap[g]? = some (.cells #[a, b] T)) (v : Value) : (w.setCell ⟨g, 0, none⟩ v).heap[g]? = some (.cells #[v, b] T) := by
  simp only [World.setCell, Array.getElem?_modify, h]; simp
theorem two_set1 {w : World} {g T : Nat} {a b : Value} (h : w.heap[g]? = some (.cells #[a, b] T)) (v : Value) : (w.setCell ⟨g, 1, none⟩ v).heap[g]? = some (.cells #[a, v] T) := by
  simp only [World.setCell, Array.getElem?_modify, h]; simp
theorem But.setCell {g : Nat} {a w : World} (h : But g a w) (o : Nat) (u : Value) : But g a (w.setCell ⟨g, o, none⟩ u) :=
  h.trans ⟨rfl, rfl, rfl, by simp [World.setCell], fun k hk hn => Below.heap_setCell _ _ _ _ hn⟩
theorem But.drew {g : Nat} {a w : World} (h : But g a w) : But g a w.drew := ⟨h.os, h.tape, h.output, h.size, h.block⟩

def rdFail (l : List Nat) (e c : Nat) : List Nat × Nat := if e = 0 then (if c = 0 then l else [], c) else ([], e)
/-- What 'take' gives, leaves, and says. -/
def rdTake (l : List Nat) (e : Nat) (n : Int) : List Nat × List Nat × Nat :=
  if l.length < n.toNat then ([], rdFail l e 8) else (l.take n.toNat, l.drop n.toNat, e)
/-- Bytes as a number, the lowest first. -/
def numB : List Nat → Nat
  | [] => 0
  | x :: t => x + 256 * numB t
def rdGet (l : List Nat) (e : Nat) (n : Int) : Nat × List Nat × Nat :=
  let r := rdTake l e (if 8 < n then 0 else n)
  (numB r.1, r.2)
end Go.Proofs.Ytlnlcmdbhkpnhaa
