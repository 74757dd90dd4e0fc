/- Words on memory, of no program: what a slice's cells hold, below which block they lie; carried over calls that only make new memory. -/
import Derived.Test.YtlnlcmdbhkpnhaaRows
import Derived.WalkKit
import Derived.WalkSpells
import Derived.WalkLawsBesides
import Derived.Lib.Hide
import Derived.BigQuiet
import Derived.Deep.QuietTactic
import Derived.StillTailTactics
import Derived.Deep.DeepCutAuto
import Derived.Deep.RegionHeld3
import Derived.Laws.BytesArg
namespace Go.Proofs.Ytlnlcmdbhkpnhaa
open Go.RowKit

/-- The n cells from ao on hold f, and lie below block B. -/
def CellsAt (w : World) (B : Nat) (ao : Option Addr) (n : Nat) (f : Nat → Value) : Prop :=
  ∀ i, i < n → ∃ b off, ao = some ⟨b, off, none⟩ ∧ b < B ∧ w.cell? ⟨b, off + i, none⟩ = some (f i)

section
variable {w w' : World} {B B' : Nat} {ao : Option Addr} {n : Nat} {f g : Nat → Value}

theorem CellsAt.mono (h : CellsAt w B ao n f) (hB : B ≤ B') : CellsAt w B' ao n f := fun i hi =>
  let ⟨b, off, e, hb, hc⟩ := h i hi; ⟨b, off, e, Nat.lt_of_lt_of_le hb hB, hc⟩
theorem CellsAt.below (h : CellsAt w B ao n f) (hb : Below B w w') : CellsAt w' B ao n f := fun i hi =>
  let ⟨b, off, e, hlt, hc⟩ := h i hi; ⟨b, off, e, hlt, (hb.cell (by exact hlt)).trans hc⟩
theorem CellsAt.congr (h : CellsAt w B ao n f) (e : ∀ i, i < n → f i = g i) : CellsAt w B ao n g := fun i hi =>
  let ⟨b, off, e1, hlt, hc⟩ := h i hi; ⟨b, off, e1, hlt, by rw [hc, e i hi]⟩
theorem CellsAt.take (h : CellsAt w B ao n f) {m : Nat} (hm : m ≤ n) : CellsAt w B ao m f := fun i hi => h i (by omega)
theorem CellsAt.zero : CellsAt w B ao 0 f := fun i hi => absurd hi (Nat.not_lt_zero i)
end

/-- Numbers as cells. -/
def u8v (l : List Nat) : List Value := l.map fun b => Value.int .u8 (b : Nat)
def u64v (l : List Nat) : List Value := l.map fun b => Value.int .u64 (b : Nat)
def i64v (l : List Int) : List Value := l.map fun b => Value.int .i64 b
@[reducible] def u8c (l : List Nat) (i : Nat) : Value := .int .u8 ((l.getD i 0 : Nat) : Int)
@[reducible] def u64c (l : List Nat) (i : Nat) : Value := .int .u64 ((l.getD i 0 : Nat) : Int)
@[reducible] def i64c (l : List Int) (i : Nat) : Value := .int .i64 (l.getD i 0)
theorem u8v_length (l : List Nat) : (u8v l).length = l.length := by simp [u8v]
theorem u64v_length (l : List Nat) : (u64v l).length = l.length := by simp [u64v]
theorem i64v_length (l : List Int) : (i64v l).length = l.length := by simp [i64v]
theorem u8v_at (l : List Nat) (i : Nat) (h : i < l.length) : (u8v l)[i]? = some (u8c l i) := by simp [u8v, u8c, h]
theorem u64v_at (l : List Nat) (i : Nat) (h : i < l.length) : (u64v l)[i]? = some (u64c l i) := by simp [u64v, u64c, h]
theorem i64v_at (l : List Int) (i : Nat) (h : i < l.length) : (i64v l)[i]? = some (i64c l i) := by simp [i64v, i64c, h]
theorem u8v_set (l : List Nat) (i x : Nat) : (u8v l).set i (.int .u8 (x : Nat)) = u8v (l.set i x) := by simp [u8v, List.map_set]
theorem u64v_set (l : List Nat) (i x : Nat) : (u64v l).set i (.int .u64 (x : Nat)) = u64v (l.set i x) := by simp [u64v, List.map_set]
theorem u8v_append (l m : List Nat) : u8v l ++ u8v m = u8v (l ++ m) := by simp [u8v]
theorem u64v_append (l m : List Nat) : u64v l ++ u64v m = u64v (l ++ m) := by simp [u64v]
theorem i64v_append (l m : List Int) : i64v l ++ i64v m = i64v (l ++ m) := by simp [i64v]

/-- An owned row as a slice whose cells are known. -/
theorem own_cells {w : World} {base : Nat} {e : TypeId} {v : Value} {n : Nat} {xs : List Value} (h : w.ownsRow base e 1 v n xs) :
    ∃ ao cap, v = .slice ao n cap ∧ CellsAt w w.heap.size ao n (fun i => xs.getD i undef) ∧ (∀ a, ao = some a → base ≤ a.block) := by
  have h' := h
  rcases h.2 with ⟨rfl, rfl⟩ | ⟨g, cap, cur, rfl, hb, hg, hnc, hcm, hcs, htake⟩
  · exact ⟨none, 0, rfl, CellsAt.zero, fun a ha => by cases ha⟩
  · refine ⟨some ⟨g, 0, none⟩, cap, rfl, fun i hi => ⟨g, 0, rfl, (Array.getElem?_eq_some_iff.1 hg).1, ?_⟩, fun a ha => by cases ha; exact hb⟩
    have hl := h'.1
    rw [Nat.zero_add, h'.cellAt i (by omega)]
    show _ = some (xs.getD i undef)
    rw [List.getD_eq_getElem?_getD, List.getElem?_eq_getElem (by omega)]
    rfl
theorem own_u8 {w : World} {base : Nat} {e : TypeId} {v : Value} {n : Nat} {l : List Nat} (h : w.ownsRow base e 1 v n (u8v l)) :
    ∃ ao cap, v = .slice ao n cap ∧ CellsAt w w.heap.size ao n (u8c l) ∧ (∀ a, ao = some a → base ≤ a.block) := by
  obtain ⟨ao, cap, e1, hc, hb⟩ := own_cells h
  have hl : l.length = n := by have := h.1; simpa [u8v_length] using this
  refine ⟨ao, cap, e1, hc.congr fun i hi => ?_, hb⟩
  rw [List.getD_eq_getElem?_getD, u8v_at l i (by omega)]; rfl
theorem own_u64 {w : World} {base : Nat} {e : TypeId} {v : Value} {n : Nat} {l : List Nat} (h : w.ownsRow base e 1 v n (u64v l)) :
    ∃ ao cap, v = .slice ao n cap ∧ CellsAt w w.heap.size ao n (u64c l) ∧ (∀ a, ao = some a → base ≤ a.block) := by
  obtain ⟨ao, cap, e1, hc, hb⟩ := own_cells h
  have hl : l.length = n := by have := h.1; simpa [u64v_length] using this
  refine ⟨ao, cap, e1, hc.congr fun i hi => ?_, hb⟩
  rw [List.getD_eq_getElem?_getD, u64v_at l i (by omega)]; rfl
theorem own_i64 {w : World} {base : Nat} {e : TypeId} {v : Value} {n : Nat} {l : List Int} (h : w.ownsRow base e 1 v n (i64v l)) :
    ∃ ao cap, v = .slice ao n cap ∧ CellsAt w w.heap.size ao n (i64c l) ∧ (∀ a, ao = some a → base ≤ a.block) := by
  obtain ⟨ao, cap, e1, hc, hb⟩ := own_cells h
  have hl : l.length = n := by have := h.1; simpa [i64v_length] using this
  refine ⟨ao, cap, e1, hc.congr fun i hi => ?_, hb⟩
  rw [List.getD_eq_getElem?_getD, i64v_at l i (by omega)]; rfl

/-- A new block's cells. -/
theorem cells_alloc_mark (w : World) (cs : Array Value) (E : TypeId) (fr : Nat × Nat) (n : Nat) (f : Nat → Value) (hf : ∀ i, i < n → cs[i]? = some (f i)) :
    CellsAt (w.alloc (.cells cs E fr)) (w.alloc (.cells cs E fr)).heap.size (some ⟨w.heap.size, 0, none⟩) n f := by
  intro i hi
  refine ⟨w.heap.size, 0, rfl, by simp, ?_⟩
  rw [Nat.zero_add, cell_of_row (w.alloc (.cells cs E fr)) w.heap.size i cs E fr (heap_alloc_new w _)]
  exact hf i hi
theorem cells_alloc (w : World) (cs : Array Value) (E : TypeId) (n : Nat) (f : Nat → Value) (hf : ∀ i, i < n → cs[i]? = some (f i)) :
    CellsAt (w.alloc (.cells cs E)) (w.alloc (.cells cs E)).heap.size (some ⟨w.heap.size, 0, none⟩) n f := cells_alloc_mark w cs E (0, 0) n f hf
theorem CellsAt.alloc {w : World} {B : Nat} {ao : Option Addr} {n : Nat} {f : Nat → Value} (h : CellsAt w B ao n f) (hB : B ≤ w.heap.size) (o : Obj) : CellsAt (w.alloc o) B ao n f :=
  h.below ((Below.refl _ _).alloc hB o)
theorem CellsAt.drew {w : World} {B : Nat} {ao : Option Addr} {n : Nat} {f : Nat → Value} (h : CellsAt w B ao n f) : CellsAt w.drew B ao n f := h.below (Below.refl _ _).drew
/-- The first cell. -/
theorem CellsAt.first {w : World} {B : Nat} {ao : Option Addr} {n : Nat} {f : Nat → Value} (h : CellsAt w B ao n f) (hn : 0 < n) :
    ∃ b off, ao = some ⟨b, off, none⟩ ∧ b < B ∧ w.cell? ⟨b, off, none⟩ = some (f 0) := by
  obtain ⟨b, off, e, hb, hc⟩ := h 0 hn
  exact ⟨b, off, e, hb, by simpa using hc⟩

/-- A call's result in new memory: the slice v owns the cells xs, and nothing that was there has turned. -/
def Fresh (w w' : World) (e : TypeId) (v : Value) (xs : List Value) : Prop := w'.ownsRow w.heap.size e 1 v xs.length xs ∧ Below w.heap.size w w'

/-- A call's fresh result, opened: a slice of length n. -/
theorem Fresh.u8 {w w' : World} {E : TypeId} {v : Value} {l : List Nat} (h : Fresh w w' E v (u8v l)) :
    ∃ ao n cap, v = .slice ao n cap ∧ Hid (n = l.length) ∧ CellsAt w' w'.heap.size ao n (u8c l) ∧ (ao = none → n = 0) ∧ w'.ownsRow w.heap.size E 1 (.slice ao n cap) n (u8v l) := by
  obtain ⟨ho, -⟩ := h
  rw [u8v_length] at ho
  obtain ⟨ao, cap, rfl, hc, -⟩ := own_u8 ho
  refine ⟨ao, _, cap, rfl, Lib.hid rfl, hc, fun e => ?_, ho⟩
  rcases ho.2 with ⟨h1, h2⟩ | ⟨g, c2, cur, h1, _⟩
  · exact h2
  · subst e; simp at h1
theorem Fresh.u64 {w w' : World} {E : TypeId} {v : Value} {l : List Nat} (h : Fresh w w' E v (u64v l)) :
    ∃ ao n cap, v = .slice ao n cap ∧ Hid (n = l.length) ∧ CellsAt w' w'.heap.size ao n (u64c l) ∧ (ao = none → n = 0) ∧ w'.ownsRow w.heap.size E 1 (.slice ao n cap) n (u64v l) := by
  obtain ⟨ho, -⟩ := h
  rw [u64v_length] at ho
  obtain ⟨ao, cap, rfl, hc, -⟩ := own_u64 ho
  refine ⟨ao, _, cap, rfl, Lib.hid rfl, hc, fun e => ?_, ho⟩
  rcases ho.2 with ⟨h1, h2⟩ | ⟨g, c2, cur, h1, _⟩
  · exact h2
  · subst e; simp at h1
/-- One call more: what lies below the first block is as it was. -/
theorem bmore {w w1 w2 : World} (h : Below w.heap.size w w1) (h2 : Below w1.heap.size w1 w2) : Below w.heap.size w w2 := h.trans (h2.mono h.size)
theorem own_base {w : World} {base base' : Nat} {e : TypeId} {size : Nat} {v : Value} {n : Nat} {xs : List Value} (h : w.ownsRow base e size v n xs) (hb : base' ≤ base) : w.ownsRow base' e size v n xs :=
  ⟨h.1, h.2.imp id (fun ⟨g, cap, cur, h1, h2, h3⟩ => ⟨g, cap, cur, h1, Nat.le_trans hb h2, h3⟩)⟩
theorem balloc {w w1 : World} (h : Below w.heap.size w w1) (o : Obj) : Below w.heap.size w (w1.alloc o) := h.alloc h.size o
theorem CellsAt.at {w w' : World} {ao : Option Addr} {n : Nat} {f : Nat → Value} (h : CellsAt w w.heap.size ao n f) (hb : Below w.heap.size w w') : CellsAt w' w'.heap.size ao n f := (h.below hb).mono hb.size

/-- A contract that leaves the world alone, said the other way about. -/
theorem same_flip {P : Program} {f : FuncId} {args : Array Value} {w : World} {v : Value} (h : Calls P f args w fun e w' => e = .returned v ∧ w = w') :
    Calls P f args w fun e w' => e = .returned v ∧ w' = w := h.mono fun _ _ x => ⟨x.1, x.2.symm⟩

/-- Bytes as a string. -/
def strOf (l : List Nat) : ByteArray := strOfNums (l.map Int.ofNat)
theorem strOf_toList (l : List Nat) : (strOf l).toList = l.map UInt8.ofNat := by
  rw [ByteArray.toList_eq, strOf, strOfNums_data]; simp [Function.comp_def]
theorem run_string_of {P : Program} {w : World} {B : Nat} {ao : Option Addr} {n cap : Nat} {l : List Nat} (src e dst : TypeId) (hs : P.underlying src = some (.slice e)) (he : P.underlying e = some (.int .u8))
    (hd : P.underlying dst = some .string) (hl : l.length = n) (hc : CellsAt w B ao n (u8c l)) (hn : ao = none → n = 0) :
    (convert src dst (.slice ao n cap)).run P w = .ok (.string (strOf l)) w := by
  cases ao with
  | none =>
    have h0 := hn rfl; subst h0
    obtain rfl : l = [] := List.length_eq_zero_iff.1 hl
    rw [run_convert_bytes_nil w src e hs he _ _ dst hd]
    rfl
  | some a =>
    rcases Nat.eq_zero_or_pos n with h0 | h0
    · subst h0
      obtain rfl : l = [] := List.length_eq_zero_iff.1 hl
      rw [run_convert_bytes_string w src dst e _ _ cap hs he hd, run_bytesToString w _ 0 cap [] (by simp [loadCells, loadCellsFrom])]
      rfl
    · obtain ⟨b, off, ha, -, -⟩ := hc 0 h0
      cases ha
      refine run_convert_bytes_arg w src e hs he b off n cap (l.map Int.ofNat) (by simpa using hl) (fun i hi => ?_) dst hd
      obtain ⟨b', off', e1, -, h1⟩ := hc i hi
      cases e1
      rw [h1]; congr 1
      simp [u8c, List.getD_eq_getElem?_getD, List.getElem?_map, List.getElem?_eq_getElem (show i < l.length by omega)]
end Go.Proofs.Ytlnlcmdbhkpnhaa
