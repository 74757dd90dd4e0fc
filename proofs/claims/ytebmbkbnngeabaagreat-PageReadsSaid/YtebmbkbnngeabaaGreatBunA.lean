/- Texts that the proof stands on, merged. -/
import Derived.Test.YtebmbkbnngeabaaGreatRows
import Derived.WalkKit
import Derived.WalkSpells
import Derived.WalkLawsBesides
import Derived.Lib.Hide
import Derived.BigQuiet
import Derived.Deep.QuietTactic
import Derived.StillTailTactics
import Derived.Deep.DeepCutAuto
import Derived.Deep.RegionHeld3
import Derived.Laws.BytesArg
import Derived.Laws.Bits64b
import Derived.Laws.BitsLemmas
import Derived.OpenShut
import Derived.Deep.Slices
import Derived.Deep.Fields
import Derived.ChangeSame
import Derived.Laws.RangeString
import Derived.ScopeJumps
set_option linter.unusedVariables false
set_option linter.unusedSimpArgs false
namespace Go.Proofs.YtebmbkbnngeabaaGreat
open Go.RowKit
def CellsAt (w : World) (B : Nat) (ao : Option Addr) (n : Nat) (f : Nat → Value) : Prop :=
 ∀ i, i < n → ∃ b off, ao = some ⟨b, off, none⟩ ∧ b < B ∧ w.cell? ⟨b, off + i, none⟩ = some (f i)
section
variable {w w' : World} {B B' : Nat} {ao : Option Addr} {n : Nat} {f g : Nat → Value}
theorem CellsAt.mono (h : CellsAt w B ao n f) (hB : B ≤ B') : CellsAt w B' ao n f := fun i hi =>
 let ⟨b, off, e, hb, hc⟩ := h i hi; ⟨b, off, e, Nat.lt_of_lt_of_le hb hB, hc⟩
theorem CellsAt.below (h : CellsAt w B ao n f) (hb : Below B w w') : CellsAt w' B ao n f := fun i hi =>
 let ⟨b, off, e, hlt, hc⟩ := h i hi; ⟨b, off, e, hlt, (hb.cell (by exact hlt)).trans hc⟩
theorem CellsAt.congr (h : CellsAt w B ao n f) (e : ∀ i, i < n → f i = g i) : CellsAt w B ao n g := fun i hi =>
 let ⟨b, off, e1, hlt, hc⟩ := h i hi; ⟨b, off, e1, hlt, by rw [hc, e i hi]⟩
theorem CellsAt.take (h : CellsAt w B ao n f) {m : Nat} (hm : m ≤ n) : CellsAt w B ao m f := fun i hi => h i (by omega)
theorem CellsAt.zero : CellsAt w B ao 0 f := fun i hi => absurd hi (Nat.not_lt_zero i)
end
def u8v (l : List Nat) : List Value := l.map fun b => Value.int .u8 (b : Nat)
def u64v (l : List Nat) : List Value := l.map fun b => Value.int .u64 (b : Nat)
def i64v (l : List Int) : List Value := l.map fun b => Value.int .i64 b
@[reducible] def u8c (l : List Nat) (i : Nat) : Value := .int .u8 ((l.getD i 0 : Nat) : Int)
@[reducible] def u64c (l : List Nat) (i : Nat) : Value := .int .u64 ((l.getD i 0 : Nat) : Int)
@[reducible] def i64c (l : List Int) (i : Nat) : Value := .int .i64 (l.getD i 0)
theorem u8v_length (l : List Nat) : (u8v l).length = l.length := by simp [u8v]
theorem u64v_length (l : List Nat) : (u64v l).length = l.length := by simp [u64v]
theorem i64v_length (l : List Int) : (i64v l).length = l.length := by simp [i64v]
theorem u8v_at (l : List Nat) (i : Nat) (h : i < l.length) : (u8v l)[i]? = some (u8c l i) := by simp [u8v, u8c, h]
theorem u64v_at (l : List Nat) (i : Nat) (h : i < l.length) : (u64v l)[i]? = some (u64c l i) := by simp [u64v, u64c, h]
theorem i64v_at (l : List Int) (i : Nat) (h : i < l.length) : (i64v l)[i]? = some (i64c l i) := by simp [i64v, i64c, h]
theorem u8v_set (l : List Nat) (i x : Nat) : (u8v l).set i (.int .u8 (x : Nat)) = u8v (l.set i x) := by simp [u8v, List.map_set]
theorem u64v_set (l : List Nat) (i x : Nat) : (u64v l).set i (.int .u64 (x : Nat)) = u64v (l.set i x) := by simp [u64v, List.map_set]
theorem u8v_append (l m : List Nat) : u8v l ++ u8v m = u8v (l ++ m) := by simp [u8v]
theorem u64v_append (l m : List Nat) : u64v l ++ u64v m = u64v (l ++ m) := by simp [u64v]
theorem i64v_append (l m : List Int) : i64v l ++ i64v m = i64v (l ++ m) := by simp [i64v]
theorem own_cells {w : World} {base : Nat} {e : TypeId} {v : Value} {n : Nat} {xs : List Value} (h : w.ownsRow base e 1 v n xs) :
 ∃ ao cap, v = .slice ao n cap ∧ CellsAt w w.heap.size ao n (fun i => xs.getD i undef) ∧ (∀ a, ao = some a → base ≤ a.block) := by
 have h' := h
 rcases h.2 with ⟨rfl, rfl⟩ | ⟨g, cap, cur, rfl, hb, hg, hnc, hcm, hcs, htake⟩
 · exact ⟨none, 0, rfl, CellsAt.zero, fun a ha => by cases ha⟩
 · refine ⟨some ⟨g, 0, none⟩, cap, rfl, fun i hi => ⟨g, 0, rfl, (Array.getElem?_eq_some_iff.1 hg).1, ?_⟩, fun a ha => by cases ha; exact hb⟩
   have hl := h'.1
   rw [Nat.zero_add, h'.cellAt i (by omega)]
   show _ = some (xs.getD i undef)
   rw [List.getD_eq_getElem?_getD, List.getElem?_eq_getElem (by omega)]
   rfl
theorem own_u8 {w : World} {base : Nat} {e : TypeId} {v : Value} {n : Nat} {l : List Nat} (h : w.ownsRow base e 1 v n (u8v l)) :
 ∃ ao cap, v = .slice ao n cap ∧ CellsAt w w.heap.size ao n (u8c l) ∧ (∀ a, ao = some a → base ≤ a.block) := by
 obtain ⟨ao, cap, e1, hc, hb⟩ := own_cells h
 have hl : l.length = n := by have := h.1; simpa [u8v_length] using this
 refine ⟨ao, cap, e1, hc.congr fun i hi => ?_, hb⟩
 rw [List.getD_eq_getElem?_getD, u8v_at l i (by omega)]; rfl
theorem own_u64 {w : World} {base : Nat} {e : TypeId} {v : Value} {n : Nat} {l : List Nat} (h : w.ownsRow base e 1 v n (u64v l)) :
 ∃ ao cap, v = .slice ao n cap ∧ CellsAt w w.heap.size ao n (u64c l) ∧ (∀ a, ao = some a → base ≤ a.block) := by
 obtain ⟨ao, cap, e1, hc, hb⟩ := own_cells h
 have hl : l.length = n := by have := h.1; simpa [u64v_length] using this
 refine ⟨ao, cap, e1, hc.congr fun i hi => ?_, hb⟩
 rw [List.getD_eq_getElem?_getD, u64v_at l i (by omega)]; rfl
theorem own_i64 {w : World} {base : Nat} {e : TypeId} {v : Value} {n : Nat} {l : List Int} (h : w.ownsRow base e 1 v n (i64v l)) :
 ∃ ao cap, v = .slice ao n cap ∧ CellsAt w w.heap.size ao n (i64c l) ∧ (∀ a, ao = some a → base ≤ a.block) := by
 obtain ⟨ao, cap, e1, hc, hb⟩ := own_cells h
 have hl : l.length = n := by have := h.1; simpa [i64v_length] using this
 refine ⟨ao, cap, e1, hc.congr fun i hi => ?_, hb⟩
 rw [List.getD_eq_getElem?_getD, i64v_at l i (by omega)]; rfl
theorem cells_alloc_mark (w : World) (cs : Array Value) (E : TypeId) (fr : Nat × Nat) (n : Nat) (f : Nat → Value) (hf : ∀ i, i < n → cs[i]? = some (f i)) :
 CellsAt (w.alloc (.cells cs E fr)) (w.alloc (.cells cs E fr)).heap.size (some ⟨w.heap.size, 0, none⟩) n f := by
 intro i hi
 refine ⟨w.heap.size, 0, rfl, by simp, ?_⟩
 rw [Nat.zero_add, cell_of_row (w.alloc (.cells cs E fr)) w.heap.size i cs E fr (heap_alloc_new w _)]
 exact hf i hi
theorem cells_alloc (w : World) (cs : Array Value) (E : TypeId) (n : Nat) (f : Nat → Value) (hf : ∀ i, i < n → cs[i]? = some (f i)) :
 CellsAt (w.alloc (.cells cs E)) (w.alloc (.cells cs E)).heap.size (some ⟨w.heap.size, 0, none⟩) n f := cells_alloc_mark w cs E (0, 0) n f hf
theorem CellsAt.alloc {w : World} {B : Nat} {ao : Option Addr} {n : Nat} {f : Nat → Value} (h : CellsAt w B ao n f) (hB : B ≤ w.heap.size) (o : Obj) : CellsAt (w.alloc o) B ao n f :=
 h.below ((Below.refl _ _).alloc hB o)
theorem CellsAt.drew {w : World} {B : Nat} {ao : Option Addr} {n : Nat} {f : Nat → Value} (h : CellsAt w B ao n f) : CellsAt w.drew B ao n f := h.below (Below.refl _ _).drew
theorem CellsAt.first {w : World} {B : Nat} {ao : Option Addr} {n : Nat} {f : Nat → Value} (h : CellsAt w B ao n f) (hn : 0 < n) :
 ∃ b off, ao = some ⟨b, off, none⟩ ∧ b < B ∧ w.cell? ⟨b, off, none⟩ = some (f 0) := by
 obtain ⟨b, off, e, hb, hc⟩ := h 0 hn
 exact ⟨b, off, e, hb, by simpa using hc⟩
def Fresh (w w' : World) (e : TypeId) (v : Value) (xs : List Value) : Prop := w'.ownsRow w.heap.size e 1 v xs.length xs ∧ Below w.heap.size w w'
theorem Fresh.u8 {w w' : World} {E : TypeId} {v : Value} {l : List Nat} (h : Fresh w w' E v (u8v l)) :
 ∃ ao n cap, v = .slice ao n cap ∧ Hid (n = l.length) ∧ CellsAt w' w'.heap.size ao n (u8c l) ∧ (ao = none → n = 0) ∧ w'.ownsRow w.heap.size E 1 (.slice ao n cap) n (u8v l) := by
 obtain ⟨ho, -⟩ := h
 rw [u8v_length] at ho
 obtain ⟨ao, cap, rfl, hc, -⟩ := own_u8 ho
 refine ⟨ao, _, cap, rfl, Lib.hid rfl, hc, fun e => ?_, ho⟩
 rcases ho.2 with ⟨h1, h2⟩ | ⟨g, c2, cur, h1, _⟩
 · exact h2
 · subst e; simp at h1
theorem Fresh.u64 {w w' : World} {E : TypeId} {v : Value} {l : List Nat} (h : Fresh w w' E v (u64v l)) :
 ∃ ao n cap, v = .slice ao n cap ∧ Hid (n = l.length) ∧ CellsAt w' w'.heap.size ao n (u64c l) ∧ (ao = none → n = 0) ∧ w'.ownsRow w.heap.size E 1 (.slice ao n cap) n (u64v l) := by
 obtain ⟨ho, -⟩ := h
 rw [u64v_length] at ho
 obtain ⟨ao, cap, rfl, hc, -⟩ := own_u64 ho
 refine ⟨ao, _, cap, rfl, Lib.hid rfl, hc, fun e => ?_, ho⟩
 rcases ho.2 with ⟨h1, h2⟩ | ⟨g, c2, cur, h1, _⟩
 · exact h2
 · subst e; simp at h1
theorem bmore {w w1 w2 : World} (h : Below w.heap.size w w1) (h2 : Below w1.heap.size w1 w2) : Below w.heap.size w w2 := h.trans (h2.mono h.size)
theorem own_base {w : World} {base base' : Nat} {e : TypeId} {size : Nat} {v : Value} {n : Nat} {xs : List Value} (h : w.ownsRow base e size v n xs) (hb : base' ≤ base) : w.ownsRow base' e size v n xs :=
 ⟨h.1, h.2.imp id (fun ⟨g, cap, cur, h1, h2, h3⟩ => ⟨g, cap, cur, h1, Nat.le_trans hb h2, h3⟩)⟩
theorem balloc {w w1 : World} (h : Below w.heap.size w w1) (o : Obj) : Below w.heap.size w (w1.alloc o) := h.alloc h.size o
theorem CellsAt.at {w w' : World} {ao : Option Addr} {n : Nat} {f : Nat → Value} (h : CellsAt w w.heap.size ao n f) (hb : Below w.heap.size w w') : CellsAt w' w'.heap.size ao n f := (h.below hb).mono hb.size
theorem same_flip {P : Program} {f : FuncId} {args : Array Value} {w : World} {v : Value} (h : Calls P f args w fun e w' => e = .returned v ∧ w = w') :
 Calls P f args w fun e w' => e = .returned v ∧ w' = w := h.mono fun _ _ x => ⟨x.1, x.2.symm⟩
def strOf (l : List Nat) : ByteArray := strOfNums (l.map Int.ofNat)
theorem run_string_of {P : Program} {w : World} {B : Nat} {ao : Option Addr} {n cap : Nat} {l : List Nat} (src e dst : TypeId) (hs : P.underlying src = some (.slice e)) (he : P.underlying e = some (.int .u8))
 (hd : P.underlying dst = some .string) (hl : l.length = n) (hc : CellsAt w B ao n (u8c l)) (hn : ao = none → n = 0) :
 (convert src dst (.slice ao n cap)).run P w = .ok (.string (strOf l)) w := by
 cases ao with
 | none =>
  have h0 := hn rfl; subst h0
  obtain rfl : l = [] := List.length_eq_zero_iff.1 hl
  rw [run_convert_bytes_nil w src e hs he _ _ dst hd]
  rfl
 | some a =>
  rcases Nat.eq_zero_or_pos n with h0 | h0
  · subst h0
    obtain rfl : l = [] := List.length_eq_zero_iff.1 hl
    rw [run_convert_bytes_string w src dst e _ _ cap hs he hd, run_bytesToString w _ 0 cap [] (by simp [loadCells, loadCellsFrom])]
    rfl
  · obtain ⟨b, off, ha, -, -⟩ := hc 0 h0
    cases ha
    refine run_convert_bytes_arg w src e hs he b off n cap (l.map Int.ofNat) (by simpa using hl) (fun i hi => ?_) dst hd
    obtain ⟨b', off', e1, -, h1⟩ := hc i hi
    cases e1
    rw [h1]; congr 1
    simp [u8c, List.getD_eq_getElem?_getD, List.getElem?_map, List.getElem?_eq_getElem (show i < l.length by omega)]
end Go.Proofs.YtebmbkbnngeabaaGreat

set_option linter.unusedSimpArgs false
namespace Go.Proofs.YtebmbkbnngeabaaGreat
open Go.RowKit
set_option linter.unusedVariables false
theorem own_below {w w' : World} {base : Nat} {e : TypeId} {size : Nat} {v : Value} {n : Nat} {xs : List Value} (h : w.ownsRow base e size v n xs) (hb : Below w.heap.size w w') : w'.ownsRow base e size v n xs :=
 ⟨h.1, h.2.imp id fun ⟨g, cap, cur, h1, h2, h3, h4⟩ => ⟨g, cap, cur, h1, h2, (hb.block g (Array.getElem?_eq_some_iff.1 h3).1).trans h3, h4⟩⟩
theorem own_u8c {w : World} {base : Nat} {e : TypeId} {v : Value} {n : Nat} {l : List Nat} (h : w.ownsRow base e 1 v n (u8v l)) :
 ∃ ao cap, v = .slice ao n cap ∧ l.length = n ∧ CellsAt w w.heap.size ao n (u8c l) ∧ (ao = none → n = 0 ∧ cap = 0) := by
 have hl : l.length = n := by have := h.1; simpa [u8v_length] using this
 obtain ⟨ao, cap, rfl, hc, -⟩ := own_u8 h
 refine ⟨ao, cap, rfl, hl, hc, fun e => ?_⟩
 rcases h.2 with ⟨h1, h2⟩ | ⟨g, c2, cur, h1, _⟩
 · simp only [Value.slice.injEq] at h1; exact ⟨h2, h1.2.2⟩
 · subst e; simp at h1
theorem own_u64c {w : World} {base : Nat} {e : TypeId} {v : Value} {n : Nat} {l : List Nat} (h : w.ownsRow base e 1 v n (u64v l)) :
 ∃ ao cap, v = .slice ao n cap ∧ CellsAt w w.heap.size ao n (u64c l) ∧ (ao = none → n = 0 ∧ cap = 0) := by
 obtain ⟨ao, cap, rfl, hc, -⟩ := own_u64 h
 refine ⟨ao, cap, rfl, hc, fun e => ?_⟩
 rcases h.2 with ⟨h1, h2⟩ | ⟨g, c2, cur, h1, _⟩
 · simp only [Value.slice.injEq] at h1; exact ⟨h2, h1.2.2⟩
 · subst e; simp at h1
theorem run_min_int2 {P : Program} {w : World} (ts : Array TypeId) (t : TypeId) (k : IntKind) (x y : Int) (m : Int) (hm : m = min x y) : (Builtin.min_ ts t #[.int k x, .int k y]).run P w = .ok (.int k m) w := by
 have e : m = (if y < x then y else x) := by rw [hm]; split <;> omega
 rw [e]
 simp [Builtin.min_, Builtin.min2]
theorem below_of_drew {w x : World} (h : ∃ m, x = w.drewN m) : Below w.heap.size w x := by
 obtain ⟨m, rfl⟩ := h; exact below_drewN (Below.refl _ _) m
end Go.Proofs.YtebmbkbnngeabaaGreat

set_option linter.unusedVariables false
set_option linter.unusedSimpArgs false
namespace Go.Proofs.YtebmbkbnngeabaaGreat
def bitAt (l : List Nat) (wd p : Nat) : Bool := (l.getD (p / wd) 0).testBit (p % wd)
def byteOf (f : Nat → Bool) : Nat :=
 (f 0).toNat + 2 * (f 1).toNat + 4 * (f 2).toNat + 8 * (f 3).toNat + 16 * (f 4).toNat + 32 * (f 5).toNat + 64 * (f 6).toNat + 128 * (f 7).toNat
def packTo (g : Nat → Bool) (N t : Nat) : List Nat := (List.range N).map fun j => byteOf fun m => decide (8 * j + m < t) && g (8 * j + m)
def packSize (n wd : Nat) : Nat := (n * wd + 7) / 8
def packed (l : List Nat) (wd : Nat) : List Nat := packTo (bitAt l wd) (packSize l.length wd) (l.length * wd)
theorem byteOf_congr {f g : Nat → Bool} (h : ∀ m, m < 8 → f m = g m) : byteOf f = byteOf g := by
 unfold byteOf; rw [h 0 (by omega), h 1 (by omega), h 2 (by omega), h 3 (by omega), h 4 (by omega), h 5 (by omega), h 6 (by omega), h 7 (by omega)]
theorem toNat_le (b : Bool) : b.toNat ≤ 1 := by cases b <;> decide
theorem byteOf_lt (f : Nat → Bool) : byteOf f < 256 := by
 unfold byteOf
 have h0 := toNat_le (f 0); have h1 := toNat_le (f 1); have h2 := toNat_le (f 2); have h3 := toNat_le (f 3)
 have h4 := toNat_le (f 4); have h5 := toNat_le (f 5); have h6 := toNat_le (f 6); have h7 := toNat_le (f 7)
 omega
theorem byteOf_false : byteOf (fun _ => false) = 0 := by decide
def byte8 (a0 a1 a2 a3 a4 a5 a6 a7 : Bool) : Nat := a0.toNat + 2 * a1.toNat + 4 * a2.toNat + 8 * a3.toNat + 16 * a4.toNat + 32 * a5.toNat + 64 * a6.toNat + 128 * a7.toNat
theorem byte8_test : ∀ a0 a1 a2 a3 a4 a5 a6 a7 : Bool, (byte8 a0 a1 a2 a3 a4 a5 a6 a7).testBit 0 = a0 ∧ (byte8 a0 a1 a2 a3 a4 a5 a6 a7).testBit 1 = a1 ∧ (byte8 a0 a1 a2 a3 a4 a5 a6 a7).testBit 2 = a2 ∧ (byte8 a0 a1 a2 a3 a4 a5 a6 a7).testBit 3 = a3
 ∧ (byte8 a0 a1 a2 a3 a4 a5 a6 a7).testBit 4 = a4 ∧ (byte8 a0 a1 a2 a3 a4 a5 a6 a7).testBit 5 = a5 ∧ (byte8 a0 a1 a2 a3 a4 a5 a6 a7).testBit 6 = a6 ∧ (byte8 a0 a1 a2 a3 a4 a5 a6 a7).testBit 7 = a7 := by decide +kernel
theorem byteOf_testBit (f : Nat → Bool) (m : Nat) (hm : m < 8) : (byteOf f).testBit m = f m := by
 have h := byte8_test (f 0) (f 1) (f 2) (f 3) (f 4) (f 5) (f 6) (f 7)
 match m, hm with
 | 0, _ => exact h.1
 | 1, _ => exact h.2.1
 | 2, _ => exact h.2.2.1
 | 3, _ => exact h.2.2.2.1
 | 4, _ => exact h.2.2.2.2.1
 | 5, _ => exact h.2.2.2.2.2.1
 | 6, _ => exact h.2.2.2.2.2.2.1
 | 7, _ => exact h.2.2.2.2.2.2.2
theorem byte_ext {a b : Nat} (ha : a < 256) (hb : b < 256) (h : ∀ m, m < 8 → a.testBit m = b.testBit m) : a = b := by
 apply Nat.eq_of_testBit_eq
 intro i
 rcases Nat.lt_or_ge i 8 with hi | hi
 · exact h i hi
 · have e : 2 ^ 8 ≤ 2 ^ i := Nat.pow_le_pow_right (by decide) hi
   rw [Nat.testBit_lt_two_pow (by omega), Nat.testBit_lt_two_pow (by omega)]
theorem shl_bit_lt (b : Bool) (k : Nat) (hk : k < 8) : b.toNat <<< k < 256 := by
 have h1 := toNat_le b
 have h2 : 2 ^ k ≤ 2 ^ 7 := Nat.pow_le_pow_right (by decide) (by omega)
 rw [Nat.shiftLeft_eq]
 have : b.toNat * 2 ^ k ≤ 1 * 2 ^ k := Nat.mul_le_mul_right _ h1
 omega
theorem testBit_boolShl (b : Bool) (k m : Nat) : (b.toNat <<< k).testBit m = (decide (m = k) && b) := by
 rw [Nat.testBit_shiftLeft]
 by_cases h : m = k
 · subst h; cases b <;> simp
 · by_cases h2 : k ≤ m
   · have : 0 < m - k := by omega
     simp [h, h2]
     cases b
     · simp
     · exact Nat.testBit_lt_two_pow (by have := Nat.one_lt_two_pow (n := m - k) (by omega); simpa using this)
   · simp [h, h2]
theorem byteOf_or (f : Nat → Bool) (b : Bool) (k : Nat) (hk : k < 8) : byteOf f ||| (b.toNat <<< k) = byteOf (fun m => f m || (decide (m = k) && b)) := by
 refine byte_ext (by have := Nat.or_lt_two_pow (n := 8) (byteOf_lt f) (shl_bit_lt b k hk); simpa using this) (byteOf_lt _) fun m hm => ?_
 rw [Nat.testBit_or, byteOf_testBit _ m hm, byteOf_testBit _ m hm, testBit_boolShl]
theorem packTo_length (g : Nat → Bool) (N t : Nat) : (packTo g N t).length = N := by simp [packTo]
theorem packTo_getD (g : Nat → Bool) (N t j : Nat) (hj : j < N) : (packTo g N t).getD j 0 = byteOf fun m => decide (8 * j + m < t) && g (8 * j + m) := by
 simp [packTo, List.getD_eq_getElem?_getD, hj]
theorem packTo_zero (g : Nat → Bool) (N : Nat) : packTo g N 0 = List.replicate N 0 := by
 refine List.ext_getElem (by simp [packTo]) fun j h1 h2 => ?_
 simp [packTo, byteOf_false]
theorem packTo_lt (g : Nat → Bool) (N t : Nat) : ∀ x ∈ packTo g N t, x < 256 := by
 intro x hx
 obtain ⟨j, _, rfl⟩ := List.mem_map.1 hx
 exact byteOf_lt _
theorem packTo_getD_lt (g : Nat → Bool) (N t j : Nat) : (packTo g N t).getD j 0 < 256 := by
 rcases Nat.lt_or_ge j N with h | h
 · rw [packTo_getD _ _ _ _ h]; exact byteOf_lt _
 · rw [List.getD_eq_getElem?_getD, List.getElem?_eq_none (by rw [packTo_length]; exact h)]; decide
theorem packTo_succ (g : Nat → Bool) (N t : Nat) (ht : t / 8 < N) :
 (packTo g N t).set (t / 8) ((packTo g N t).getD (t / 8) 0 ||| ((g t).toNat <<< (t % 8))) = packTo g N (t + 1) := by
 refine List.ext_getElem (by simp [packTo]) fun j h1 h2 => ?_
 have hj : j < N := by simpa [packTo] using h2
 rw [List.getElem_set]
 split
 · rename_i h
   subst h
   rw [packTo_getD _ _ _ _ ht, byteOf_or _ _ _ (by omega)]
   simp only [packTo, List.getElem_map, List.getElem_range]
   refine byteOf_congr fun m hm => ?_
   have e := Nat.div_add_mod t 8
   by_cases hmt : m = t % 8
   · subst hmt; simp [e]
   · have : (8 * (t / 8) + m < t) ↔ (8 * (t / 8) + m < t + 1) := by omega
     simp [hmt, this]
 · rename_i h
   simp only [packTo, List.getElem_map, List.getElem_range]
   refine byteOf_congr fun m hm => ?_
   have : (8 * j + m < t) ↔ (8 * j + m < t + 1) := by omega
   simp [this]
theorem packTo_skip (g : Nat → Bool) (N t : Nat) (hg : g t = false) : packTo g N t = packTo g N (t + 1) := by
 unfold packTo
 refine List.map_congr_left fun j _ => byteOf_congr fun m hm => ?_
 by_cases h : 8 * j + m = t
 · rw [h, hg]; simp
 · have : (8 * j + m < t) ↔ (8 * j + m < t + 1) := by omega
   simp [this]
theorem bitAt_at (l : List Nat) (wd k m : Nat) (hm : m < wd) : bitAt l wd (k * wd + m) = (l.getD k 0).testBit m := by
 unfold bitAt
 have h1 : (k * wd + m) / wd = k := by rw [Nat.mul_comm, Nat.mul_add_div (by omega), Nat.div_eq_of_lt hm]; omega
 have h2 : (k * wd + m) % wd = m := by rw [Nat.mul_comm, Nat.mul_add_mod, Nat.mod_eq_of_lt hm]
 rw [h1, h2]
theorem packed_length (l : List Nat) (wd : Nat) : (packed l wd).length = packSize l.length wd := packTo_length _ _ _
theorem packed_lt (l : List Nat) (wd : Nat) : ∀ x ∈ packed l wd, x < 256 := packTo_lt _ _ _
theorem and_one_testBit (v m : Nat) : (v >>> m) &&& 1 = (v.testBit m).toNat := by
 rw [Nat.and_one_is_mod, Nat.shiftRight_eq_div_pow, Nat.toNat_testBit]
theorem wraps8 (n : Int) (h0 : 0 ≤ n) (h1 : n < 2 ^ 8) : IntKind.u8.wrap n = n := by rw [IntKind.wrap_u8]; omega
theorem bits_or_u8 (a b : Nat) (ha : a < 256) (hb : b < 256) : bits .or .u8 (a : Int) (b : Int) = ((a ||| b : Nat) : Int) :=
 (bits_nat .u8 8 (by decide) wraps8 a b ha hb).2
theorem bits_and_u8 (a b : Nat) (ha : a < 256) (hb : b < 256) : bits .and .u8 (a : Int) (b : Int) = ((a &&& b : Nat) : Int) :=
 (bits_nat .u8 8 (by decide) wraps8 a b ha hb).1
theorem bits_and_one_div_u64 (v m : Nat) (hv : v < 18446744073709551616) : bits .and .u64 ((v : Int) / 2 ^ m) 1 = ((v.testBit m).toNat : Nat) := by
 have h : v >>> m < 18446744073709551616 := Nat.lt_of_le_of_lt (Nat.shiftRight_le v m) hv
 have e : ((v : Int) / 2 ^ m) = ((v >>> m : Nat) : Int) := by rw [Nat.shiftRight_eq_div_pow]; simp
 rw [e]
 exact (bits_and_u64_nat (v >>> m) 1 h (by decide)).trans (by rw [and_one_testBit])
theorem rpack_test (v m : Nat) (hv : v < 18446744073709551616) : (bits .and .u64 ((v : Int) / 2 ^ m) 1 == 1) = v.testBit m := by
 rw [bits_and_one_div_u64 v m hv]; cases v.testBit m <;> rfl
theorem pow_cast8 (k : Nat) (hk : k < 8) : (2 : Int) ^ k % 256 = ((true.toNat <<< k : Nat) : Int) := by
 match k, hk with
 | 0, _ => rfl
 | 1, _ => rfl
 | 2, _ => rfl
 | 3, _ => rfl
 | 4, _ => rfl
 | 5, _ => rfl
 | 6, _ => rfl
 | 7, _ => rfl
theorem rpack_store (old k : Nat) (ho : old < 256) (hk : k < 8) :
 bits .or .u8 (old : Int) (2 ^ k % 256) = ((old ||| (true.toNat <<< k) : Nat) : Int) := by
 rw [pow_cast8 k hk, bits_or_u8 _ _ ho (shl_bit_lt _ _ hk)]
end Go.Proofs.YtebmbkbnngeabaaGreat

set_option linter.unusedSimpArgs false
namespace Go.Proofs.YtebmbkbnngeabaaGreat
set_option linter.unusedVariables false
def vputF : Nat → Nat → List Nat
 | 0, v => [v]
 | n + 1, v => if v < 128 then [v] else (v % 128 + 128) :: vputF n (v / 128)
def vputB (v : Nat) : List Nat := vputF 9 v
theorem vputF_lt (n : Nat) : ∀ v, v < 128 * 128 ^ n → ∀ x ∈ vputF n v, x < 256 := by
 induction n with
 | zero => intro v hv x hx; simp [vputF] at hx; omega
 | succ n ih =>
  intro v hv x hx
  unfold vputF at hx
  split at hx
  · simp at hx; omega
  · rcases List.mem_cons.1 hx with h | h
    · omega
    · exact ih (v / 128) (by rw [Nat.pow_succ] at hv; omega) x h
theorem vputB_lt (v : Nat) (hv : v < 18446744073709551616) : ∀ x ∈ vputB v, x < 256 := vputF_lt 9 v (by omega)
theorem vputF_length (n v : Nat) : 1 ≤ (vputF n v).length ∧ (vputF n v).length ≤ n + 1 := by
 induction n generalizing v with
 | zero => simp [vputF]
 | succ n ih =>
  unfold vputF
  split
  · simp
  · have := ih (v / 128); simp only [List.length_cons]; omega
theorem vputB_length (v : Nat) : 1 ≤ (vputB v).length ∧ (vputB v).length ≤ 10 := vputF_length 9 v
theorem vputB_small (v : Nat) (h : v < 128) : vputB v = [v] := by unfold vputB vputF; rw [if_pos h]
def vgetR : List Nat → Nat → Nat → Nat × Nat × Nat
 | [], _, _ => (0, 0, 8)
 | x :: t, k, v => if k = 9 ∧ 1 < x then (0, 0, 14) else if x < 128 then (if x = 0 ∧ 0 < k then (0, 0, 10) else (v + x * 2 ^ (7 * k), k + 1, 0)) else vgetR t (k + 1) (v + x % 128 * 2 ^ (7 * k))
def vgetM (b : List Nat) : Nat × Nat × Nat := vgetR b 0 0
theorem vgetR_n (b : List Nat) : ∀ k v, (vgetR b k v).2.1 ≤ k + b.length ∧ ((vgetR b k v).2.2 = 0 → k < (vgetR b k v).2.1) := by
 induction b with
 | nil => intro k v; simp [vgetR]
 | cons x t ih =>
  intro k v
  unfold vgetR
  split
  · simp
  split
  · split
    · simp
    · simp only [List.length_cons]; omega
  · have := ih (k + 1) (v + x % 128 * 2 ^ (7 * k))
    simp only [List.length_cons]
    exact ⟨by omega, fun h => by have := this.2 h; omega⟩
theorem vgetM_n (b : List Nat) : (vgetM b).2.1 ≤ b.length := by have := (vgetR_n b 0 0).1; unfold vgetM; omega
theorem vgetR_lt (b : List Nat) : ∀ k v, k ≤ 9 → v < 2 ^ (7 * k) → (vgetR b k v).1 < 18446744073709551616 := by
 induction b with
 | nil => intro k v _ _; simp [vgetR]
 | cons x t ih =>
  intro k v hk hv
  unfold vgetR
  split
  · simp
  rename_i h9
  split
  · split
    · simp
    · rename_i hx _
      have hk' : k ≤ 8 ∨ k = 9 := by omega
      rcases hk' with h8 | rfl
      · have : 2 ^ (7 * k) ≤ 2 ^ 56 := Nat.pow_le_pow_right (by decide) (by omega)
        have : x * 2 ^ (7 * k) ≤ 127 * 2 ^ 56 := Nat.mul_le_mul (by omega) this
        show v + x * 2 ^ (7 * k) < _
        omega
      · have : x ≤ 1 := by omega
        have : x * 2 ^ (7 * 9) ≤ 1 * 2 ^ (7 * 9) := Nat.mul_le_mul_right _ this
        show v + x * 2 ^ (7 * 9) < _
        omega
  · rename_i hx
    have h8 : k ≤ 8 := by omega
    refine ih (k + 1) _ (by omega) ?_
    have : x % 128 * 2 ^ (7 * k) ≤ 127 * 2 ^ (7 * k) := Nat.mul_le_mul_right _ (by omega)
    rw [show 7 * (k + 1) = 7 * k + 7 by omega, Nat.pow_add]
    omega
theorem vgetM_lt (b : List Nat) : (vgetM b).1 < 18446744073709551616 := vgetR_lt b 0 0 (by omega) (by simp)
theorem or_add (v x k : Nat) (hv : v < 2 ^ k) : v ||| (x * 2 ^ k) = v + x * 2 ^ k := by
 have := Nat.two_pow_add_eq_or_of_lt hv x
 rw [Nat.or_comm, Nat.mul_comm, ← this, Nat.mul_comm, Nat.add_comm]
end Go.Proofs.YtebmbkbnngeabaaGreat

set_option linter.unusedVariables false
set_option linter.unusedSimpArgs false
namespace Go.Proofs.YtebmbkbnngeabaaGreat
def bitLen (v : Nat) : Nat := if v = 0 then 0 else Nat.log2 v + 1
theorem bitLen_zero : bitLen 0 = 0 := rfl
theorem bitLen_half (v : Nat) (hv : 0 < v) : bitLen v = bitLen (v / 2) + 1 := by
 unfold bitLen
 rw [if_neg (by omega), Nat.log2_def]
 by_cases h : 2 ≤ v
 · rw [if_pos h, if_neg (by omega)]
 · obtain rfl : v = 1 := by omega
   rfl
theorem bitLen_lt (v : Nat) : v < 2 ^ bitLen v := by
 unfold bitLen
 split
 · rename_i h; subst h; decide
 · exact Nat.lt_log2_self
theorem bitLen_le_of_lt (v k : Nat) (h : v < 2 ^ k) : bitLen v ≤ k := by
 unfold bitLen
 split
 · exact Nat.zero_le _
 · rename_i hv
   rcases Nat.lt_or_ge (Nat.log2 v) k with h1 | h1
   · omega
   · have h2 := Nat.log2_self_le hv
     have h3 : 2 ^ k ≤ 2 ^ Nat.log2 v := Nat.pow_le_pow_right (by decide) h1
     omega
theorem bitLen_le64 (v : Nat) (h : v < 18446744073709551616) : bitLen v ≤ 64 := bitLen_le_of_lt v 64 (by simpa using h)
end Go.Proofs.YtebmbkbnngeabaaGreat

set_option linter.unusedSimpArgs false
namespace Go.Proofs.YtebmbkbnngeabaaGreat
set_option linter.unusedVariables false
def bitOf (b : List Nat) (p : Nat) : Bool := (b.getD (p / 8) 0).testBit (p % 8)
def numOf (g : Nat → Bool) : Nat → Nat
 | 0 => 0
 | k + 1 => numOf g k ||| ((g k).toNat <<< k)
theorem numOf_testBit (g : Nat → Bool) : ∀ (k m : Nat), (numOf g k).testBit m = (decide (m < k) && g m)
 | 0, m => by simp [numOf]
 | k + 1, m => by
  rw [numOf, Nat.testBit_or, numOf_testBit g k m, testBit_boolShl]
  by_cases h : m = k
  · subst h; simp
  · have e : (m < k) ↔ (m < k + 1) := by omega
    simp [h, e]
theorem numOf_lt (g : Nat → Bool) (k : Nat) : numOf g k < 2 ^ k := by
 apply Nat.lt_pow_two_of_testBit
 intro i hi
 rw [numOf_testBit]; simp; omega
theorem numOf_congr {g h : Nat → Bool} : ∀ {k : Nat}, (∀ m, m < k → g m = h m) → numOf g k = numOf h k
 | 0, _ => rfl
 | k + 1, e => by rw [numOf, numOf, numOf_congr (fun m hm => e m (by omega)), e k (by omega)]
def unpacked (b : List Nat) (n wd : Nat) : List Nat := (List.range n).map fun i => numOf (fun k => bitOf b (i * wd + k)) wd
def tailClear (b : List Nat) (f : Nat) : Bool := (List.range (8 * b.length)).all fun p => decide (p < f) || !bitOf b p
def unpackSpec (b : List Nat) (n width : Int) : List Nat × Nat :=
 if n < 0 ∨ 4000 < n ∨ width < 0 ∨ 64 < width then ([], 1)
 else if b.length < packSize n.toNat width.toNat then ([], 8)
 else if packSize n.toNat width.toNat < b.length then ([], 9)
 else if tailClear b (n.toNat * width.toNat) then (unpacked b n.toNat width.toNat, 0) else ([], 10)
theorem tailClear_iff (b : List Nat) (f : Nat) : tailClear b f = true ↔ ∀ p, f ≤ p → p < 8 * b.length → bitOf b p = false := by
 unfold tailClear
 rw [List.all_eq_true]
 constructor
 · intro h p h1 h2
   have := h p (List.mem_range.2 h2)
   simpa [Nat.not_lt.2 h1] using this
 · intro h p hp
   rcases Nat.lt_or_ge p f with hf | hf
   · simp [hf]
   · simp [h p hf (List.mem_range.1 hp)]
theorem unpacked_length (b : List Nat) (n wd : Nat) : (unpacked b n wd).length = n := by simp [unpacked]
theorem unpacked_lt (b : List Nat) (n wd : Nat) (hw : wd ≤ 64) : ∀ x ∈ unpacked b n wd, x < 18446744073709551616 := by
 intro x hx
 obtain ⟨i, -, rfl⟩ := List.mem_map.1 hx
 exact Nat.lt_of_lt_of_le (numOf_lt _ _) (Nat.le_trans (Nat.pow_le_pow_right (by decide) hw) (by decide))
theorem unpackSpec_lt (b : List Nat) (n width : Int) : ∀ x ∈ (unpackSpec b n width).1, x < 18446744073709551616 := by
 unfold unpackSpec
 split
 · simp
 · split
   · simp
   · split
     · simp
     · split
       · exact unpacked_lt _ _ _ (by omega)
       · simp
theorem unpackSpec_err (b : List Nat) (n width : Int) : (unpackSpec b n width).2 ≤ 10 := by
 unfold unpackSpec; repeat' split
 all_goals simp
def unpackTo (b : List Nat) (n wd k j : Nat) : List Nat := (List.range n).map fun i => if i < k then numOf (fun m => bitOf b (i * wd + m)) wd else if i = k then numOf (fun m => bitOf b (i * wd + m)) j else 0
theorem unpackTo_zero (b : List Nat) (n wd : Nat) : unpackTo b n wd 0 0 = List.replicate n 0 := by
 refine List.ext_getElem (by simp [unpackTo]) fun i h1 h2 => ?_
 simp only [unpackTo, List.getElem_map, List.getElem_range, List.getElem_replicate]
 rw [if_neg (by omega)]
 split <;> rfl
theorem unpackTo_next (b : List Nat) (n wd k : Nat) : unpackTo b n wd k wd = unpackTo b n wd (k + 1) 0 := by
 unfold unpackTo
 refine List.map_congr_left fun i _ => ?_
 by_cases h1 : i < k
 · rw [if_pos h1, if_pos (by omega)]
 · by_cases h2 : i = k
   · subst h2; rw [if_neg (by omega), if_pos rfl, if_pos (by omega)]
   · rw [if_neg h1, if_neg h2, if_neg (by omega)]
     split <;> rfl
theorem unpackTo_all (b : List Nat) (n wd : Nat) : unpackTo b n wd n 0 = unpacked b n wd := by
 unfold unpackTo unpacked
 refine List.map_congr_left fun i hi => ?_
 rw [if_pos (List.mem_range.1 hi)]
theorem unpackTo_getD (b : List Nat) (n wd k j : Nat) (hk : k < n) : (unpackTo b n wd k j).getD k 0 = numOf (fun m => bitOf b (k * wd + m)) j := by
 simp [unpackTo, List.getD_eq_getElem?_getD, hk]
theorem unpackTo_succ (b : List Nat) (n wd k j : Nat) (hk : k < n) :
 (unpackTo b n wd k j).set k (numOf (fun m => bitOf b (k * wd + m)) j ||| ((bitOf b (k * wd + j)).toNat <<< j)) = unpackTo b n wd k (j + 1) := by
 refine List.ext_getElem (by simp [unpackTo]) fun i h1 h2 => ?_
 rw [List.getElem_set]
 split
 · rename_i h; subst h
   simp [unpackTo, numOf]
 · rename_i h
   simp only [unpackTo, List.getElem_map, List.getElem_range]
   rw [if_neg (show ¬ i = k by omega), if_neg (show ¬ i = k by omega)]
end Go.Proofs.YtebmbkbnngeabaaGreat

set_option linter.unusedSimpArgs false
namespace Go.Proofs.YtebmbkbnngeabaaGreat
set_option linter.unusedVariables false
def inI64 (v : Int) : Prop := -9223372036854775808 ≤ v ∧ v ≤ 9223372036854775807
def zigN (v : Int) : Nat := if 0 ≤ v then (2 * v).toNat else (-2 * v - 1).toNat
def zagI (u : Nat) : Int := if u % 2 = 0 then ((u / 2 : Nat) : Int) else -((u / 2 : Nat) : Int) - 1
theorem zigN_lt (v : Int) (h : inI64 v) : zigN v < 18446744073709551616 := by
 obtain ⟨h1, h2⟩ := h
 unfold zigN; split <;> omega
def w64 (n : Int) : Int := (n + 9223372036854775808) % 18446744073709551616 - 9223372036854775808
theorem w64_in (n : Int) : inI64 (w64 n) := by unfold w64 inI64; omega
def diffs : List Int → List Int
 | [] => []
 | [_] => []
 | a :: b :: t => w64 (b - a) :: diffs (b :: t)
theorem diffs_length : ∀ l : List Int, (diffs l).length = l.length - 1
 | [] => rfl
 | [_] => rfl
 | a :: b :: t => by simp only [diffs, List.length_cons, diffs_length (b :: t)]; omega
theorem diffs_at : ∀ (l : List Int) (i : Nat), i + 1 < l.length → (diffs l).getD i 0 = w64 (l.getD (i + 1) 0 - l.getD i 0)
 | [], i, h => by simp at h
 | [_], i, h => by simp at h
 | a :: b :: t, 0, _ => rfl
 | a :: b :: t, i + 1, h => by
  have := diffs_at (b :: t) i (by simpa using h)
  simpa [diffs] using this
theorem diffs_in (l : List Int) : ∀ d ∈ diffs l, inI64 d := by
 intro d hd
 obtain ⟨i, hi, rfl⟩ := List.mem_iff_getElem.1 hd
 rw [diffs_length] at hi
 have := diffs_at l i (by omega)
 rw [List.getD_eq_getElem?_getD, List.getElem?_eq_getElem (by rw [diffs_length]; exact hi)] at this
 rw [show (diffs l)[i] = w64 (l.getD (i + 1) 0 - l.getD i 0) from this]
 exact w64_in _
def minTo (c : List Int) (k : Nat) : Int := (c.take k).foldl min (c.getD 0 0)
def minI (c : List Int) : Int := minTo c c.length
theorem minTo_succ (c : List Int) (k : Nat) (h : k < c.length) : minTo c (k + 1) = min (minTo c k) (c.getD k 0) := by
 unfold minTo
 rw [List.take_succ_eq_append_getElem h, List.foldl_append, List.getD_eq_getElem?_getD (i := k), List.getElem?_eq_getElem h]; rfl
theorem foldl_min_in (l : List Int) : ∀ a : Int, inI64 a → (∀ x ∈ l, inI64 x) → inI64 (l.foldl min a) := by
 induction l with
 | nil => intro a h _; exact h
 | cons y t ih =>
  intro a h hl
  simp only [List.foldl_cons]
  refine ih _ ?_ (fun x hx => hl x (List.mem_cons_of_mem _ hx))
  have := hl y (List.mem_cons_self ..)
  unfold inI64 at h this ⊢
  omega
theorem minTo_in (c : List Int) (k : Nat) (h0 : 0 < c.length) (h : ∀ x ∈ c, inI64 x) : inI64 (minTo c k) := by
 refine foldl_min_in _ _ ?_ (fun x hx => h x (List.mem_of_mem_take hx))
 rw [List.getD_eq_getElem?_getD, List.getElem?_eq_getElem h0]
 exact h _ (List.getElem_mem _)
def overN (m d : Int) : Nat := ((d - m) % 18446744073709551616).toNat
def overs (c : List Int) : List Nat := c.map (overN (minI c))
def maxTo (m : Int) (c : List Int) (k : Nat) : Nat := ((c.take k).map (overN m)).foldl max 0
def blockW (c : List Int) : Nat := bitLen (maxTo (minI c) c c.length)
theorem overN_lt (m d : Int) : overN m d < 18446744073709551616 := by unfold overN; omega
theorem maxTo_succ (m : Int) (c : List Int) (k : Nat) (h : k < c.length) : maxTo m c (k + 1) = max (maxTo m c k) (overN m (c.getD k 0)) := by
 unfold maxTo
 rw [List.take_succ_eq_append_getElem h, List.map_append, List.foldl_append, List.getD_eq_getElem?_getD, List.getElem?_eq_getElem h]; rfl
theorem foldl_max_lt (B : Nat) (l : List Nat) : ∀ a : Nat, a < B → (∀ x ∈ l, x < B) → l.foldl max a < B := by
 induction l with
 | nil => intro a h _; exact h
 | cons y t ih =>
  intro a h hl
  simp only [List.foldl_cons]
  exact ih _ (by have := hl y (List.mem_cons_self ..); omega) (fun x hx => hl x (List.mem_cons_of_mem _ hx))
theorem maxTo_lt (m : Int) (c : List Int) (k : Nat) : maxTo m c k < 18446744073709551616 :=
 foldl_max_lt _ _ _ (by decide) (fun x hx => by obtain ⟨d, -, rfl⟩ := List.mem_map.1 hx; exact overN_lt m d)
theorem blockW_le (c : List Int) : blockW c ≤ 64 := bitLen_le64 _ (maxTo_lt _ _ _)
def blockB (c : List Int) : List Nat := vputB (zigN (minI c)) ++ [blockW c] ++ packed (overs c) (blockW c)
def chunk (d : List Int) (j : Nat) : List Int := (d.drop (32 * j)).take 32
def chunks (d : List Int) (k : Nat) : List (List Int) := (List.range k).map (chunk d)
theorem chunks_succ (d : List Int) (k : Nat) : chunks d (k + 1) = chunks d k ++ [chunk d k] := by simp [chunks, List.range_succ]
def nBlocks (d : List Int) : Nat := (d.length + 31) / 32
def blocksB (cs : List (List Int)) : List Nat := (cs.map blockB).flatten
theorem blocksB_snoc (cs : List (List Int)) (c : List Int) : blocksB (cs ++ [c]) = blocksB cs ++ blockB c := by simp [blocksB]
def dIntsB (l : List Int) : List Nat := if l = [] then [] else vputB (zigN (l.getD 0 0)) ++ blocksB (chunks (diffs l) (nBlocks (diffs l)))
end Go.Proofs.YtebmbkbnngeabaaGreat

set_option linter.unusedSimpArgs false
namespace Go.Proofs.YtebmbkbnngeabaaGreat
open Go.RowKit
set_option linter.unusedVariables false
theorem wpList_make_g {P : Program} (w : World) {ops : Array Oper} {rest : List Oper} {o : Oper} {a : Act} {Q : Exit → Act → World → Prop}
 (hg : Region.wanted o (yielded ops a.tmps) = true) (l c : Operand) (t : TypeId) (hop : o.op = Op.makeSlice t l c)
 (base : Nat) (e : TypeId) (i : TypeInfo) (z : Value) (size : Nat) (h1 : P.underlying t = some (.slice e)) (h2 : P.info? e = some i) (h3 : i.zero = some z) (h4 : i.size = size)
 (kl kc : IntKind) (n : Nat) (hl : a.eval l = .int kl (n : Nat)) (hc : a.eval c = .int kc (n : Nat)) (b2 : i.bytes * n ≤ 281474976710656) (b3 : n ≤ maxLen) (b4 : base ≤ w.heap.size)
 (hK : ∀ w', w'.ownsRow base e size (.slice (some ⟨w.heap.size, 0, none⟩) n n) n (madeCells z.cells (n * size)).toList → w.grownBy w' none → wpList P ops Q rest (a.put o.dst (.slice (some ⟨w.heap.size, 0, none⟩) n n)) w') :
 wpList P ops Q (o :: rest) a w := by
 refine Go.BigFrame.wpList_want hg fun K hK' => ?_
 obtain ⟨w', hrun, r1, r2⟩ := run_make_full (P := P) w base t e i z size h1 h2 h3 h4 kl kc n b2 b3 b4
 unfold Oper.wp
 simp [execOp, hop, hl, hc, hrun, Result.andThen]
 exact hK' _ _ (hK w' r1 r2)
end Go.Proofs.YtebmbkbnngeabaaGreat

set_option linter.unusedSimpArgs false
namespace Go.Proofs.YtebmbkbnngeabaaGreat
open Go.RowKit
set_option linter.unusedVariables false
theorem modN' (a : Int) (b : Nat) (hb : 0 < b) : ∃ k : Nat, a % (b : Int) = k ∧ k < b :=
 ⟨(a % (b : Int)).toNat, by have := Int.emod_nonneg a (show (b : Int) ≠ 0 by omega); omega, by have := Int.emod_lt_of_pos a (show (0 : Int) < b by omega); have := Int.emod_nonneg a (show (b : Int) ≠ 0 by omega); omega⟩
end Go.Proofs.YtebmbkbnngeabaaGreat

set_option linter.unusedSimpArgs false
namespace Go.Proofs.YtebmbkbnngeabaaGreat
set_option linter.unusedVariables false
open Go.RowKit
def IsRow (k : IntKind) (w : World) (a : Option Addr) (len cap : Nat) (zs : List Int) : Prop :=
 (a = none ∧ len = 0 ∧ cap = 0 ∧ zs = []) ∨
 ∃ x, a = some x ∧ len ≤ cap ∧ cap ≤ maxLen ∧ zs.length = cap ∧ (∀ i, i < zs.length → w.cell? (x.add i) = some (.int k (zs.getD i 0))) ∧ ∀ n ∈ zs, (Lit.int k n).wf = true
theorem cell_spot {w : World} {a : Addr} {v : Value} (h : w.cell? a = some v) : a.spot = none := by
 unfold World.cell? at h
 split at h
 · split at h
   · cases h
   · rename_i hs; simpa using hs
 · cases h
theorem IsRow.open_ {k : IntKind} {w : World} {a : Option Addr} {len cap : Nat} {zs : List Int} (h : IsRow k w a len cap zs) :
 len ≤ cap ∧ cap ≤ maxLen ∧ (a = none → len = 0 ∧ cap = 0) ∧ (zs.take len).length = len ∧ (∀ n ∈ zs.take len, (Lit.int k n).wf = true) ∧ CellsAt w w.heap.size a len (fun i => .int k ((zs.take len).getD i 0)) := by
 rcases h with ⟨rfl, rfl, rfl, rfl⟩ | ⟨x, rfl, hl, hm, hz, hc, hwf⟩
 · exact ⟨Nat.le_refl _, Nat.zero_le _, fun _ => ⟨rfl, rfl⟩, rfl, fun n hn => absurd hn (by simp), CellsAt.zero⟩
 · refine ⟨hl, hm, fun e => (by cases e), by rw [List.length_take]; omega, fun n hn => hwf n (List.mem_of_mem_take hn), fun i hi => ?_⟩
   have hx := hc i (by omega)
   have h0 := hc 0 (by omega)
   have hs : x.spot = none := cell_spot (by simpa [Addr.add] using h0)
   obtain ⟨b, off, spot⟩ := x
   simp only at hs
   subst hs
   rw [Addr.add_lit] at hx
   refine ⟨b, off, rfl, World.block_lt_of_cell? w _ hx, ?_⟩
   rw [hx]
   simp [List.getD_eq_getElem?_getD, List.getElem?_take, hi]
theorem toNats_getD (zs : List Int) (h : ∀ n ∈ zs, 0 ≤ n) (i : Nat) : (((zs.map Int.toNat).getD i 0 : Nat) : Int) = zs.getD i 0 := by
 simp only [List.getD_eq_getElem?_getD, List.getElem?_map]
 rcases Nat.lt_or_ge i zs.length with hi | hi
 · rw [List.getElem?_eq_getElem hi]
   have := h _ (List.getElem_mem hi)
   simp; omega
 · rw [List.getElem?_eq_none hi]; rfl
theorem IsRow.u64 {w : World} {a : Option Addr} {len cap : Nat} {zs : List Int} (h : IsRow .u64 w a len cap zs) :
 ∃ l : List Nat, l.length = len ∧ (∀ x ∈ l, x < 18446744073709551616) ∧ CellsAt w w.heap.size a len (u64c l) ∧ (a = none → len = 0) ∧ len ≤ 9223372036854775807 := by
 obtain ⟨h1, h2, h3, h4, h5, h6⟩ := h.open_
 refine ⟨(zs.take len).map Int.toNat, by rw [List.length_map]; exact h4, fun x hx => ?_, h6.congr fun i hi => ?_, fun e => (h3 e).1, by unfold maxLen at h2; omega⟩
 · obtain ⟨n, hn, rfl⟩ := List.mem_map.1 hx
   have := bounds_u64 (h5 n hn); omega
 · rw [u64c, toNats_getD _ (fun n hn => (bounds_u64 (h5 n hn)).1)]
theorem IsRow.u8 {w : World} {a : Option Addr} {len cap : Nat} {zs : List Int} (h : IsRow .u8 w a len cap zs) :
 ∃ l : List Nat, l.length = len ∧ (∀ x ∈ l, x < 256) ∧ CellsAt w w.heap.size a len (u8c l) ∧ (a = none → len = 0) ∧ len ≤ 9223372036854775807 := by
 obtain ⟨h1, h2, h3, h4, h5, h6⟩ := h.open_
 refine ⟨(zs.take len).map Int.toNat, by rw [List.length_map]; exact h4, fun x hx => ?_, h6.congr fun i hi => ?_, fun e => (h3 e).1, by unfold maxLen at h2; omega⟩
 · obtain ⟨n, hn, rfl⟩ := List.mem_map.1 hx
   have := bounds_u8 (h5 n hn); omega
 · rw [u8c, toNats_getD _ (fun n hn => (bounds_u8 (h5 n hn)).1)]
theorem IsRow.i64 {w : World} {a : Option Addr} {len cap : Nat} {zs : List Int} (h : IsRow .i64 w a len cap zs) :
 ∃ l : List Int, l.length = len ∧ (∀ x ∈ l, -9223372036854775808 ≤ x ∧ x ≤ 9223372036854775807) ∧ CellsAt w w.heap.size a len (i64c l) ∧ (a = none → len = 0) ∧ len ≤ 9223372036854775807 := by
 obtain ⟨h1, h2, h3, h4, h5, h6⟩ := h.open_
 exact ⟨zs.take len, h4, fun x hx => bounds_i64 (h5 x hx), h6, fun e => (h3 e).1, by unfold maxLen at h2; omega⟩
end Go.Proofs.YtebmbkbnngeabaaGreat

set_option linter.unusedVariables false
set_option linter.unusedSimpArgs false
namespace Go.Proofs.YtebmbkbnngeabaaGreat
open Go.RowKit
abbrev Vl := Int × ByteArray
def vl0 : Vl := (0, ByteArray.empty)
@[reducible] def vN (l : List Vl) (i : Nat) : Value := .int .i64 (l.getD i vl0).1
@[reducible] def vS (l : List Vl) (i : Nat) : Value := .string (l.getD i vl0).2
def vlc (l : List Vl) (j : Nat) : Value := if j % 2 = 0 then vN l (j / 2) else vS l (j / 2)
theorem vlc_even (l : List Vl) (i : Nat) : vlc l (2 * i) = vN l i := by
 unfold vlc; rw [if_pos (by omega), show 2 * i / 2 = i by omega]
theorem vlc_odd (l : List Vl) (i : Nat) : vlc l (2 * i + 1) = vS l i := by
 unfold vlc; rw [if_neg (by omega), show (2 * i + 1) / 2 = i by omega]
@[reducible] def vV (v : Vl) : Value := .agg #[.int .i64 v.1, .string v.2]
def okV (v : Vl) : Prop := (-9223372036854775808 ≤ v.1 ∧ v.1 ≤ 9223372036854775807) ∧ v.2.size ≤ 9223372036854775807
def IsVals (w : World) (a : Option Addr) (len cap : Nat) (l : List Vl) : Prop :=
 l.length = len ∧ len ≤ cap ∧ cap ≤ 9223372036854775807 ∧ (a = none → len = 0 ∧ cap = 0) ∧ CellsAt w w.heap.size a (len * 2) (vlc l) ∧ ∀ v ∈ l, okV v
section
variable {H : Type} {enc : TypeId × Value → H} {P : Program} {w : World} {base : Nat} {spare : Nat → Bool} {held : Bool}
open Go.ChangeShapes Go.WideShapes Go.Deep
end
theorem IsVals.below {w w' : World} {a : Option Addr} {len cap : Nat} {l : List Vl} (h : IsVals w a len cap l) (hb : Below w.heap.size w w') : IsVals w' a len cap l :=
 ⟨h.1, h.2.1, h.2.2.1, h.2.2.2.1, h.2.2.2.2.1.at hb, h.2.2.2.2.2⟩
theorem CellsAt.val {w : World} {B : Nat} {ao : Option Addr} {n : Nat} {l : List Vl} (h : CellsAt w B ao (n * 2) (vlc l)) {i : Nat} (hi : i < n) :
 ∃ b off, ao = some ⟨b, off, none⟩ ∧ b < B ∧ w.cell? ⟨b, off + i * 2, none⟩ = some (vN l i) ∧ w.cell? ⟨b, off + i * 2 + 1, none⟩ = some (vS l i) := by
 obtain ⟨b, off, e, hb, h0⟩ := h (2 * i) (by omega)
 obtain ⟨b', off', e', -, h1⟩ := h (2 * i + 1) (by omega)
 rw [e] at e'
 cases e'
 refine ⟨b, off, e, hb, ?_, ?_⟩
 · rw [Nat.mul_comm i 2, h0, vlc_even]
 · rw [Nat.mul_comm i 2, Nat.add_assoc, h1, vlc_odd]
def vcs (l : List Vl) : List Value := (List.range (l.length * 2)).map (vlc l)
theorem vcs_length (l : List Vl) : (vcs l).length = l.length * 2 := by simp [vcs]
theorem getD_app_lt (l : List Vl) (m : List Vl) (i : Nat) (h : i < l.length) : (l ++ m).getD i vl0 = l.getD i vl0 := by
 simp only [List.getD_eq_getElem?_getD, List.getElem?_append_left h]
theorem getD_app_ge (l : List Vl) (m : List Vl) (i : Nat) (h : l.length ≤ i) : (l ++ m).getD i vl0 = m.getD (i - l.length) vl0 := by
 simp only [List.getD_eq_getElem?_getD, List.getElem?_append_right h]
theorem vlc_app_lt (l m : List Vl) (j : Nat) (h : j < l.length * 2) : vlc (l ++ m) j = vlc l j := by
 unfold vlc vN vS
 rw [getD_app_lt l m _ (by omega)]
theorem vlc_app_ge (l m : List Vl) (j : Nat) : vlc (l ++ m) (l.length * 2 + j) = vlc m j := by
 unfold vlc vN vS
 rw [getD_app_ge l m _ (by omega), show (l.length * 2 + j) / 2 - l.length = j / 2 by omega, show (l.length * 2 + j) % 2 = j % 2 by omega]
theorem vcs_app (l m : List Vl) : vcs l ++ vcs m = vcs (l ++ m) := by
 refine List.ext_getElem (by simp [vcs]; omega) fun j h1 h2 => ?_
 rw [List.getElem_append]
 split
 · rename_i h
   simp only [vcs, List.getElem_map, List.getElem_range]
   rw [vlc_app_lt l m j (by simpa [vcs] using h)]
 · rename_i h
   simp only [vcs, List.getElem_map, List.getElem_range, List.length_map, List.length_range]
   have e : j = l.length * 2 + (j - l.length * 2) := by simp [vcs] at h; omega
   rw [e, vlc_app_ge, ← e]
theorem vlc_one (l : List Vl) : ∀ j, (vlc l j).oneCell' = true := by
 intro j; unfold vlc; split <;> rfl
theorem own_v {w : World} {base : Nat} {e : TypeId} {v : Value} {n : Nat} {l : List Vl} (h : w.ownsRow base e 2 v n (vcs l)) :
 ∃ ao cap, v = .slice ao n cap ∧ l.length = n ∧ n ≤ cap ∧ CellsAt w w.heap.size ao (n * 2) (vlc l) ∧ (ao = none → n = 0 ∧ cap = 0) ∧ (∀ a, ao = some a → base ≤ a.block) := by
 have hl : l.length = n := by have := h.1; rw [vcs_length] at this; omega
 have h' := h
 rcases h.2 with ⟨rfl, rfl⟩ | ⟨g, cap, cur, rfl, hb, hg, hnc, hcm, hcs, htake⟩
 · exact ⟨none, 0, rfl, hl, Nat.le_refl _, by rw [Nat.zero_mul]; exact CellsAt.zero, fun _ => ⟨rfl, rfl⟩, fun a ha => by cases ha⟩
 · refine ⟨some ⟨g, 0, none⟩, cap, rfl, hl, hnc, fun i hi => ⟨g, 0, rfl, (Array.getElem?_eq_some_iff.1 hg).1, ?_⟩, (fun e => by cases e), fun a ha => by cases ha; exact hb⟩
   rw [Nat.zero_add, h'.cellAt i (by omega)]
   unfold vcs
   rw [List.getElem?_map, List.getElem?_range (by omega)]; rfl
theorem cells_one_v (w : World) (E : TypeId) (v : Vl) : CellsAt (w.alloc (.cells #[.int .i64 v.1, .string v.2] E)) (w.alloc (.cells #[.int .i64 v.1, .string v.2] E)).heap.size (some ⟨w.heap.size, 0, none⟩) (1 * 2) (vlc [v]) :=
 cells_alloc w _ E 2 (vlc [v]) (fun i hi => by match i, hi with | 0, _ => rfl | 1, _ => rfl)
theorem vcs_snoc (l : List Vl) (v : Vl) : vcs l ++ (List.range (1 * 2)).map (vlc [v]) = vcs (l ++ [v]) := vcs_app l [v]
def FreshV (w w' : World) (E : TypeId) (v : Value) (l : List Vl) : Prop := w'.ownsRow w.heap.size E 2 v l.length (vcs l) ∧ Below w.heap.size w w'
end Go.Proofs.YtebmbkbnngeabaaGreat

set_option linter.unusedSimpArgs false
namespace Go.Proofs.YtebmbkbnngeabaaGreat
open Go.RowKit
set_option linter.unusedVariables false
def signC (k : Int) : Int := if k = 1 then 98 else if k = 2 then 105 else if k = 3 then 108 else if k = 4 then 116 else 32
def itAt (z : World) (g : Nat) : Nat := match z.heap[g]? with
 | some (.stringIter _ p) => p
 | _ => 0
theorem itAt_iter (w : World) (s : ByteArray) (i : Nat) : itAt (w.iter s i) w.heap.size = i := by
 unfold itAt; rw [World.iter_heap]
theorem iter_below (w : World) (s : ByteArray) (i : Nat) : Below w.heap.size w (w.iter s i) := (Below.refl _ _).alloc (Nat.le_refl _) _
set_option maxHeartbeats 2000000 in
set_option maxRecDepth 100000 in
theorem dsign_any (kind : Int) (w : World) (h1 : -9223372036854775808 ≤ kind) (h2 : kind ≤ 9223372036854775807) :
 Calls Tryz.prog 81 #[.int .i64 kind] w fun e w' => e = .returned (.int .i32 (signC kind)) ∧ Below w.heap.size w w' := by
 obtain ⟨km, hkm⟩ : ∃ m, wrap64 (kind - 1) = m := ⟨_, rfl⟩
 have hk4 : Hid (∀ i : Int, 0 ≤ i → i < 4 → (i = km ↔ kind = i + 1)) := Lib.hid (by rw [← hkm]; unfold wrap64; omega)
 have hS : Hid (∀ i : Int, 0 ≤ i → i < 4 → i = km → signC kind = if i = 0 then 98 else if i = 1 then 105 else if i = 2 then 108 else 116) := Lib.hid (by
  intro i h0 h4 he
  have := (hk4.out i h0 h4).1 he
  subst this
  unfold signC
  have : i = 0 ∨ i = 1 ∨ i = 2 ∨ i = 3 := by omega
  rcases this with rfl | rfl | rfl | rfl <;> rfl)
 have hN : Hid ((∀ i : Int, 0 ≤ i → i < 4 → i ≠ km) → signC kind = 32) := Lib.hid (by
  intro h
  have g : ∀ i : Int, 0 ≤ i → i < 4 → kind ≠ i + 1 := fun i a b e => h i a b ((hk4.out i a b).2 e)
  have g0 := g 0 (by decide) (by decide); have g1 := g 1 (by decide) (by decide); have g2 := g 2 (by decide) (by decide); have g3 := g 3 (by decide) (by decide)
  unfold signC
  rw [if_neg (by omega), if_neg (by omega), if_neg (by omega), if_neg (by omega)])
 go_enter Tryz.func81, Tryz.ntmps81
 go_wp2
 go_loopw [3, 4] (fun _ _ z => ∃ i : Nat, i ≤ 4 ∧ z = w.iter ⟨#[98, 105, 108, 116]⟩ i ∧ Hid (∀ j : Nat, j < i → (j : Int) ≠ km)) (fun _ _ z => 4 - itAt z w.heap.size)
 case atStart => exact ⟨0, by decide, rfl, Lib.hid (fun j h => by omega)⟩
 case round =>
  obtain ⟨i, hi, rfl, hj⟩ := hrel
  have hi' : i = 0 ∨ i = 1 ∨ i = 2 ∨ i = 3 ∨ i = 4 := by omega
  rcases hi' with rfl | rfl | rfl | rfl | rfl
  · have hnx : ∀ ty, (Instr.next (.pointer (some ⟨w.heap.size, 0, none⟩)) true ty).run Tryz.prog (w.iter ⟨#[98, 105, 108, 116]⟩ 0) = .ok (.tuple #[.bool true, .int .i64 0, .int .i32 98]) (w.iter ⟨#[98, 105, 108, 116]⟩ 1) := fun ty => run_next_ascii (P := Tryz.prog) w ⟨#[98, 105, 108, 116]⟩ 0 ty (by decide) (by decide)
    by_cases hh : (0 : Int) = km
    · have hc := Lib.hid (hS.out 0 (by decide) (by decide) hh)
      have q1 : ((0 : Int) == km) = true := by rw [beq_iff_eq]; exact hh
      have Hb := Lib.hid (iter_below w ⟨#[98, 105, 108, 116]⟩ 1)
      clear hh
      go_wp2
      go_ret
      rw [hc.out]
      exact ⟨rfl, Hb.out⟩
    · have q1 : ((0 : Int) == km) = false := by rw [beq_eq_false_iff_ne]; exact hh
      have hj2 : Hid (∀ j : Nat, j < 1 → (j : Int) ≠ km) := Lib.hid (fun j h => by
       rcases Nat.lt_or_ge j 0 with h2 | h2
       · exact hj.out j h2
       · obtain rfl : j = 0 := by omega
         exact hh)
      clear hh
      go_wp2
      go_roundw
      case rel => exact ⟨1, by decide, rfl, hj2⟩
      case measure => rw [itAt_iter, itAt_iter]; decide
  · have hnx : ∀ ty, (Instr.next (.pointer (some ⟨w.heap.size, 0, none⟩)) true ty).run Tryz.prog (w.iter ⟨#[98, 105, 108, 116]⟩ 1) = .ok (.tuple #[.bool true, .int .i64 1, .int .i32 105]) (w.iter ⟨#[98, 105, 108, 116]⟩ 2) := fun ty => run_next_ascii (P := Tryz.prog) w ⟨#[98, 105, 108, 116]⟩ 1 ty (by decide) (by decide)
    by_cases hh : (1 : Int) = km
    · have hc := Lib.hid (hS.out 1 (by decide) (by decide) hh)
      have q1 : ((1 : Int) == km) = true := by rw [beq_iff_eq]; exact hh
      have Hb := Lib.hid (iter_below w ⟨#[98, 105, 108, 116]⟩ 2)
      clear hh
      go_wp2
      go_ret
      rw [hc.out]
      exact ⟨rfl, Hb.out⟩
    · have q1 : ((1 : Int) == km) = false := by rw [beq_eq_false_iff_ne]; exact hh
      have hj2 : Hid (∀ j : Nat, j < 2 → (j : Int) ≠ km) := Lib.hid (fun j h => by
       rcases Nat.lt_or_ge j 1 with h2 | h2
       · exact hj.out j h2
       · obtain rfl : j = 1 := by omega
         exact hh)
      clear hh
      go_wp2
      go_roundw
      case rel => exact ⟨2, by decide, rfl, hj2⟩
      case measure => rw [itAt_iter, itAt_iter]; decide
  · have hnx : ∀ ty, (Instr.next (.pointer (some ⟨w.heap.size, 0, none⟩)) true ty).run Tryz.prog (w.iter ⟨#[98, 105, 108, 116]⟩ 2) = .ok (.tuple #[.bool true, .int .i64 2, .int .i32 108]) (w.iter ⟨#[98, 105, 108, 116]⟩ 3) := fun ty => run_next_ascii (P := Tryz.prog) w ⟨#[98, 105, 108, 116]⟩ 2 ty (by decide) (by decide)
    by_cases hh : (2 : Int) = km
    · have hc := Lib.hid (hS.out 2 (by decide) (by decide) hh)
      have q1 : ((2 : Int) == km) = true := by rw [beq_iff_eq]; exact hh
      have Hb := Lib.hid (iter_below w ⟨#[98, 105, 108, 116]⟩ 3)
      clear hh
      go_wp2
      go_ret
      rw [hc.out]
      exact ⟨rfl, Hb.out⟩
    · have q1 : ((2 : Int) == km) = false := by rw [beq_eq_false_iff_ne]; exact hh
      have hj2 : Hid (∀ j : Nat, j < 3 → (j : Int) ≠ km) := Lib.hid (fun j h => by
       rcases Nat.lt_or_ge j 2 with h2 | h2
       · exact hj.out j h2
       · obtain rfl : j = 2 := by omega
         exact hh)
      clear hh
      go_wp2
      go_roundw
      case rel => exact ⟨3, by decide, rfl, hj2⟩
      case measure => rw [itAt_iter, itAt_iter]; decide
  · have hnx : ∀ ty, (Instr.next (.pointer (some ⟨w.heap.size, 0, none⟩)) true ty).run Tryz.prog (w.iter ⟨#[98, 105, 108, 116]⟩ 3) = .ok (.tuple #[.bool true, .int .i64 3, .int .i32 116]) (w.iter ⟨#[98, 105, 108, 116]⟩ 4) := fun ty => run_next_ascii (P := Tryz.prog) w ⟨#[98, 105, 108, 116]⟩ 3 ty (by decide) (by decide)
    by_cases hh : (3 : Int) = km
    · have hc := Lib.hid (hS.out 3 (by decide) (by decide) hh)
      have q1 : ((3 : Int) == km) = true := by rw [beq_iff_eq]; exact hh
      have Hb := Lib.hid (iter_below w ⟨#[98, 105, 108, 116]⟩ 4)
      clear hh
      go_wp2
      go_ret
      rw [hc.out]
      exact ⟨rfl, Hb.out⟩
    · have q1 : ((3 : Int) == km) = false := by rw [beq_eq_false_iff_ne]; exact hh
      have hj2 : Hid (∀ j : Nat, j < 4 → (j : Int) ≠ km) := Lib.hid (fun j h => by
       rcases Nat.lt_or_ge j 3 with h2 | h2
       · exact hj.out j h2
       · obtain rfl : j = 3 := by omega
         exact hh)
      clear hh
      go_wp2
      go_roundw
      case rel => exact ⟨4, by decide, rfl, hj2⟩
      case measure => rw [itAt_iter, itAt_iter]; decide
  · have hnx : ∀ ty, (Instr.next (.pointer (some ⟨w.heap.size, 0, none⟩)) true ty).run Tryz.prog (w.iter ⟨#[98, 105, 108, 116]⟩ 4) = .ok (.tuple #[.bool false]) (w.iter ⟨#[98, 105, 108, 116]⟩ 4) := fun ty => run_next_end (P := Tryz.prog) w ⟨#[98, 105, 108, 116]⟩ 4 ty (by decide)
    have hc := Lib.hid (hN.out (fun i h0 h4 => by
     obtain ⟨n, rfl⟩ : ∃ n : Nat, i = n := ⟨i.toNat, by omega⟩
     exact hj.out n (by omega)))
    have Hb := Lib.hid (iter_below w ⟨#[98, 105, 108, 116]⟩ 4)
    go_wp2
    go_ret
    rw [hc.out]
    exact ⟨rfl, Hb.out⟩
end Go.Proofs.YtebmbkbnngeabaaGreat

set_option linter.unusedSimpArgs false
namespace Go.Proofs.YtebmbkbnngeabaaGreat
set_option linter.unusedVariables false
def zigR (b : List Nat) : Int × List Nat × Nat :=
 if (vgetM b).2.2 ≠ 0 then (0, b, (vgetM b).2.2) else (zagI (vgetM b).1, b.drop (vgetM b).2.1, 0)
def accs (least : Int) : Int → List Nat → List Int
 | _, [] => []
 | last, v :: t => w64 (last + least + (v : Int)) :: accs least (w64 (last + least + (v : Int))) t
def lastI (l : List Int) : Int := l.getD (l.length - 1) 0
theorem lastI_append (l m : List Int) (h : m ≠ []) : lastI (l ++ m) = lastI m := by
 have := List.length_pos_iff.2 h
 simp only [lastI, List.getD_eq_getElem?_getD, List.length_append]
 rw [List.getElem?_append_right (by omega), show l.length + m.length - 1 - l.length = m.length - 1 by omega]
theorem accs_length (least : Int) (vs : List Nat) : ∀ last, (accs least last vs).length = vs.length := by
 induction vs with
 | nil => intro _; rfl
 | cons v t ih => intro last; simp [accs, ih]
theorem accs_snoc (least : Int) (vs : List Nat) (v : Nat) : ∀ last, accs least last (vs ++ [v]) = accs least last vs ++ [w64 ((if vs = [] then last else lastI (accs least last vs)) + least + (v : Int))] := by
 induction vs with
 | nil => intro _; rfl
 | cons a t ih =>
  intro last
  simp only [List.cons_append, accs, ih, reduceCtorEq, if_false]
  congr 3
  by_cases ht : t = []
  · subst ht; rfl
  · rw [if_neg ht]
    have h1 : accs least (w64 (last + least + (a : Int))) t ≠ [] := fun e => ht (List.length_eq_zero_iff.1 (by rw [← accs_length least t, e]; rfl))
    unfold lastI
    obtain ⟨y, r, e⟩ := List.exists_cons_of_ne_nil h1
    rw [e]
    simp [List.getD_eq_getElem?_getD]
def accTo (least : Int) (l : List Int) (vs : List Nat) (k : Nat) : List Int := l ++ accs least (lastI l) (vs.take k)
theorem accTo_zero (least : Int) (l : List Int) (vs : List Nat) : accTo least l vs 0 = l := by simp [accTo, accs]
theorem accTo_length (least : Int) (l : List Int) (vs : List Nat) (k : Nat) (h : k ≤ vs.length) : (accTo least l vs k).length = l.length + k := by
 simp only [accTo, List.length_append, accs_length, List.length_take]; omega
theorem accTo_succ (least : Int) (l : List Int) (vs : List Nat) (k : Nat) (hl : l ≠ []) (h : k < vs.length) : accTo least l vs (k + 1) = accTo least l vs k ++ [w64 (lastI (accTo least l vs k) + least + (vs.getD k 0 : Nat))] := by
 unfold accTo
 rw [List.take_succ_eq_append_getElem h, accs_snoc, ← List.append_assoc, List.getD_eq_getElem?_getD, List.getElem?_eq_getElem h]
 congr 3
 by_cases hk : vs.take k = []
 · rw [if_pos hk, hk]; simp [accs]
 · rw [if_neg hk]
   have h1 : accs least (lastI l) (vs.take k) ≠ [] := fun e => hk (List.length_eq_zero_iff.1 (by rw [← accs_length least (vs.take k), e]; rfl))
   rw [lastI_append _ _ h1]; rfl
theorem accTo_all (least : Int) (l : List Int) (vs : List Nat) : accTo least l vs vs.length = l ++ accs least (lastI l) vs := by unfold accTo; rw [List.take_length]
def blockT (least : Int) (b : List Nat) (l : List Int) (n : Nat) : List Nat × List Int × Nat :=
 if b.length = 0 then (b, l, 8) else if 64 < b.getD 0 0 then (b, l, 10)
 else if b.length - 1 < packSize n (b.getD 0 0) then (b, l, 8)
 else if (unpackSpec ((b.drop 1).take (packSize n (b.getD 0 0))) n (b.getD 0 0 : Nat)).2 ≠ 0 then (b, l, (unpackSpec ((b.drop 1).take (packSize n (b.getD 0 0))) n (b.getD 0 0 : Nat)).2)
 else (b.drop (1 + packSize n (b.getD 0 0)), l ++ accs least (lastI l) (unpackSpec ((b.drop 1).take (packSize n (b.getD 0 0))) n (b.getD 0 0 : Nat)).1, 0)
def blockR (b : List Nat) (l : List Int) (n : Nat) : List Nat × List Int × Nat :=
 if (zigR b).2.2 ≠ 0 then ((zigR b).2.1, l, (zigR b).2.2) else blockT (zigR b).1 (zigR b).2.1 l n
def blocksR : Nat → List Nat → List Int → Nat → List Nat × List Int × Nat
 | 0, b, l, _ => (b, l, 0)
 | k + 1, b, l, n => if l.length < n then (if (blockR b l (min (n - l.length) 32)).2.2 ≠ 0 then blockR b l (min (n - l.length) 32) else blocksR k (blockR b l (min (n - l.length) 32)).1 (blockR b l (min (n - l.length) 32)).2.1 n) else (b, l, 0)
def dReadM (b : List Nat) (n : Int) : List Int × Nat × Nat :=
 if n < 0 ∨ 4000 < n then ([], 0, 1) else if n = 0 then ([], 0, 0)
 else if (zigR b).2.2 ≠ 0 then ([], 0, (zigR b).2.2)
 else if (blocksR n.toNat (zigR b).2.1 [(zigR b).1] n.toNat).2.2 ≠ 0 then ([], 0, (blocksR n.toNat (zigR b).2.1 [(zigR b).1] n.toNat).2.2)
 else ((blocksR n.toNat (zigR b).2.1 [(zigR b).1] n.toNat).2.1, b.length - (blocksR n.toNat (zigR b).2.1 [(zigR b).1] n.toNat).1.length, 0)
end Go.Proofs.YtebmbkbnngeabaaGreat

set_option linter.unusedSimpArgs false
namespace Go.Proofs.YtebmbkbnngeabaaGreat
set_option linter.unusedVariables false
theorem blockB_len (c : List Int) (m : Int) (B : Nat) (hm : minI c = m) (hB : maxTo m c c.length = B) : (blockB c).length = (vputB (zigN m)).length + 1 + (c.length * bitLen B + 7) / 8 := by
 unfold blockB blockW
 rw [hm, hB]
 simp only [List.length_append, packed_length, packSize, List.length_singleton, overs, List.length_map]
theorem chunk_length' (d : List Int) (k : Nat) : (chunk d k).length = min 32 (d.length - 32 * k) := by simp [chunk]
theorem chunk_getD' (d : List Int) (k i : Nat) (hi : i < 32) : (chunk d k).getD i 0 = d.getD (32 * k + i) 0 := by
 simp only [chunk, List.getD_eq_getElem?_getD]
 rw [List.getElem?_take_of_lt hi, List.getElem?_drop]
end Go.Proofs.YtebmbkbnngeabaaGreat

set_option linter.unusedSimpArgs false
namespace Go.Proofs.YtebmbkbnngeabaaGreat
open Go.RowKit
set_option linter.unusedVariables false
theorem wp_scope_fwd {P : Program} {Q : Exit → Act → World → Prop} {a : Act} {w : World} {c rest : Code} (l : Nat) (hf : findLabel c l = some rest)
 (first : c.wp P (Exit.jump l (fun a' w' => rest.wp P (Exit.jump l (fun _ _ => False) Q) a' w') Q) a w) : (Code.scope c).wp P Q a w :=
 wp_scope_jumps l _ (fun _ _ => 0) hf first (fun a' w' h => wp_mono h (fun e a'' w'' hq => by
  cases e <;> first | exact hq | (simp only [Exit.jump] at hq ⊢; exact hq.2.elim)))
end Go.Proofs.YtebmbkbnngeabaaGreat

set_option linter.unusedVariables false
set_option linter.unusedSimpArgs false
namespace Go.Proofs.YtebmbkbnngeabaaGreat
def crcPoly : Nat := 3988292384
def crcOnes : Nat := 4294967295
def cstep (n : Nat) : Nat := if n % 2 = 1 then (n / 2) ^^^ crcPoly else n / 2
def csteps : Nat → Nat → Nat
 | 0, n => n
 | k + 1, n => csteps k (cstep n)
def cadd (c x : Nat) : Nat := csteps 8 (c ^^^ x)
def creg (b : List Nat) : Nat := b.foldl cadd crcOnes
def csum (b : List Nat) : Nat := creg b ^^^ crcOnes
theorem cstep_lt (n : Nat) (h : n < 4294967296) : cstep n < 4294967296 := by
 unfold cstep
 split
 · have := @Nat.xor_lt_two_pow (n / 2) crcPoly 32 (by omega) (by decide)
   simpa using this
 · omega
theorem csteps_lt : ∀ (k n : Nat), n < 4294967296 → csteps k n < 4294967296
 | 0, _, h => h
 | k + 1, n, h => csteps_lt k _ (cstep_lt n h)
theorem cadd_lt (c x : Nat) (h : c < 4294967296) (hx : x < 256) : cadd c x < 4294967296 := by
 unfold cadd
 exact csteps_lt _ _ (by have := @Nat.xor_lt_two_pow c x 32 (by omega) (by omega); simpa using this)
theorem foldl_lt : ∀ (b : List Nat) (r : Nat), r < 4294967296 → (∀ x ∈ b, x < 256) → b.foldl cadd r < 4294967296
 | [], _, h, _ => h
 | x :: b, r, h, hb => foldl_lt b _ (cadd_lt r x h (hb x (List.mem_cons_self ..))) (fun y hy => hb y (List.mem_cons_of_mem _ hy))
theorem creg_lt (b : List Nat) (hb : ∀ x ∈ b, x < 256) : creg b < 4294967296 := foldl_lt b _ (by decide) hb
theorem csum_lt (b : List Nat) (hb : ∀ x ∈ b, x < 256) : csum b < 4294967296 := by
 have := @Nat.xor_lt_two_pow (creg b) crcOnes 32 (by have := creg_lt b hb; omega) (by decide)
 simpa [csum] using this
theorem csum_append (a b : List Nat) : creg (a ++ b) = b.foldl cadd (creg a) := List.foldl_append
end Go.Proofs.YtebmbkbnngeabaaGreat
