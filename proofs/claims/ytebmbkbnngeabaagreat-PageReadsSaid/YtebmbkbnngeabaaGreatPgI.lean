/- Chapter 18: a page's numbers; the walks over parts, within, fits. -/
import Derived.Test.YtebmbkbnngeabaaGreatPgP
import Derived.Test.YtebmbkbnngeabaaGreatBunC
import Derived.Test.YtebmbkbnngeabaaGreatPgZ
import Derived.Test.YtebmbkbnngeabaaGreatPgL
set_option linter.unusedSimpArgs false
namespace Go.Proofs.YtebmbkbnngeabaaGreat
open Go.RowKit
set_option linter.unusedVariables false
structure Pg where
 rows : Int
 cells : Int
 enc : Int
 rl : Int
 dl : Int
 vl : Int
 crc : Nat
def pgV (p : Pg) : Value := .agg #[.int .i64 p.rows, .int .i64 p.cells, .int .i64 p.enc, .int .i64 p.rl, .int .i64 p.dl, .int .i64 p.vl, .int .u32 (p.crc : Nat)]
def in64 (x : Int) : Prop := -9223372036854775808 ≤ x ∧ x ≤ 9223372036854775807
structure OkPg (p : Pg) : Prop where
 rows : in64 p.rows
 cells : in64 p.cells
 enc : in64 p.enc
 rl : in64 p.rl
 dl : in64 p.dl
 vl : in64 p.vl
 crc : p.crc < 4294967296
def partsOk (p : Pg) (n : Nat) : Prop := 0 ≤ p.rl ∧ p.rl ≤ n ∧ 0 ≤ p.dl ∧ p.dl ≤ n - p.rl ∧ p.vl = n - p.rl - p.dl
instance (p : Pg) (n : Nat) : Decidable (partsOk p n) := by unfold partsOk; exact inferInstance
def pgOk (p : Pg) (n : Nat) : Prop := 1 ≤ p.rows ∧ p.rows ≤ 64 ∧ p.rows ≤ p.cells ∧ p.cells ≤ 4000 ∧ 0 ≤ p.enc ∧ p.enc ≤ 2 ∧ partsOk p n
instance (p : Pg) (n : Nat) : Decidable (pgOk p n) := by unfold pgOk; exact inferInstance
theorem seven_cells {w : World} {g T : Nat} {a b c d e f h : Value} (hg : w.heap[g]? = some (.cells #[a, b, c, d, e, f, h] T)) :
 w.cell? ⟨g, 0, none⟩ = some a ∧ w.cell? ⟨g, 1, none⟩ = some b ∧ w.cell? ⟨g, 2, none⟩ = some c ∧ w.cell? ⟨g, 3, none⟩ = some d ∧ w.cell? ⟨g, 4, none⟩ = some e ∧ w.cell? ⟨g, 5, none⟩ = some f ∧ w.cell? ⟨g, 6, none⟩ = some h := by
 refine ⟨?_, ?_, ?_, ?_, ?_, ?_, ?_⟩ <;> simp [World.cell?, hg]
def SaysB (b : Bool) (w : World) (e : Ending) (w' : World) : Prop := e = .returned (.bool b) ∧ Below w.heap.size w w'
set_option maxHeartbeats 4000000 in
set_option maxRecDepth 100000 in
theorem rparts_any (p : Pg) (n : Nat) (w : World) (hp : OkPg p) (hn : n ≤ 1000000) : Calls Tryz.prog 29 #[pgV p, .int .i64 (n : Nat)] w (SaysB (decide (partsOk p n)) w) := by
 obtain ⟨rows, cells, enc, rl, dl, vl, crc⟩ := p
 obtain ⟨-, -, -, hrl, hdl, hvl, -⟩ := hp
 simp only [in64] at hrl hdl hvl
 have HB := Lib.hid (balloc (Below.refl w.heap.size w) (.cells #[.int .i64 rows, .int .i64 cells, .int .i64 enc, .int .i64 rl, .int .i64 dl, .int .i64 vl, .int .u32 (crc : Nat)] 27))
 unfold pgV
 simp only
 by_cases h1 : 0 ≤ rl
 · by_cases h2 : rl ≤ (n : Int)
   · by_cases h3 : 0 ≤ dl
     · by_cases h4 : dl ≤ (n : Int) - rl
       · by_cases h5 : vl = (n : Int) - rl - dl
         · have HD : Hid (decide (partsOk ⟨rows, cells, enc, rl, dl, vl, crc⟩ n) = true) := Lib.hid (decide_eq_true ⟨h1, h2, h3, h4, h5⟩)
           rw [HD.out]
           subst h5
           go_enter Tryz.func29, Tryz.ntmps29
           go_wp2
           go_ret
           exact ⟨rfl, HB.out⟩
         · have HD : Hid (decide (partsOk ⟨rows, cells, enc, rl, dl, vl, crc⟩ n) = false) := Lib.hid (decide_eq_false fun h => h5 h.2.2.2.2)
           rw [HD.out]
           have f5 : (vl == (n : Int) - rl - dl) = false := by rw [beq_eq_false_iff_ne]; exact h5
           go_enter Tryz.func29, Tryz.ntmps29
           go_wp2
           go_ret
           exact ⟨rfl, HB.out⟩
       · have HD : Hid (decide (partsOk ⟨rows, cells, enc, rl, dl, vl, crc⟩ n) = false) := Lib.hid (decide_eq_false fun h => h4 h.2.2.2.1)
         rw [HD.out]
         go_enter Tryz.func29, Tryz.ntmps29
         go_wp2
         go_ret
         exact ⟨rfl, HB.out⟩
     · have HD : Hid (decide (partsOk ⟨rows, cells, enc, rl, dl, vl, crc⟩ n) = false) := Lib.hid (decide_eq_false fun h => h3 h.2.2.1)
       rw [HD.out]
       go_enter Tryz.func29, Tryz.ntmps29
       go_wp2
       go_ret
       exact ⟨rfl, HB.out⟩
   · have HD : Hid (decide (partsOk ⟨rows, cells, enc, rl, dl, vl, crc⟩ n) = false) := Lib.hid (decide_eq_false fun h => h2 h.2.1)
     rw [HD.out]
     go_enter Tryz.func29, Tryz.ntmps29
     go_wp2
     go_ret
     exact ⟨rfl, HB.out⟩
 · have HD : Hid (decide (partsOk ⟨rows, cells, enc, rl, dl, vl, crc⟩ n) = false) := Lib.hid (decide_eq_false fun h => h1 h.1)
   rw [HD.out]
   go_enter Tryz.func29, Tryz.ntmps29
   go_wp2
   go_ret
   exact ⟨rfl, HB.out⟩
def topB (v : Int) (l : List Int) : Bool := l.all fun x => decide (x ≤ v)
theorem topB_take (v : Int) (l : List Int) (j : Nat) (h : j < l.length) : topB v (l.take (j + 1)) = (topB v (l.take j) && decide (l.getD j 0 ≤ v)) := by
 unfold topB
 rw [List.take_succ_eq_append_getElem h, List.all_append, List.getD_eq_getElem?_getD, List.getElem?_eq_getElem h]
 simp
theorem topB_bad (v : Int) (l : List Int) (j : Nat) (h : j < l.length) (hx : v < l.getD j 0) : topB v l = false := by
 unfold topB
 rw [List.all_eq_false]
 refine ⟨l[j], List.getElem_mem _, ?_⟩
 rw [List.getD_eq_getElem?_getD, List.getElem?_eq_getElem h] at hx
 simp only [Option.getD_some] at hx
 simp; omega
set_option maxHeartbeats 1000000 in
set_option maxRecDepth 100000 in
theorem rwithin18_any (ao : Option Addr) (n cap : Nat) (l : List Int) (v : Int) (w : World) (hl : l.length = n) (hn : n ≤ 1000000) (hc : CellsAt w w.heap.size ao n (i64c l)) :
 Calls Tryz.prog 31 #[.slice ao n cap, .int .i64 v] w fun e w' => e = .returned (.bool (topB v l)) ∧ w = w' := by
 have Hl := Lib.hid hl; have Hc := Lib.hid hc
 clear hl hc
 go_enter Tryz.func31, Tryz.ntmps31
 go_wp2
 go_loopw [5] (fun i wr => ∃ j : Nat, j ≤ n ∧ i = .int .i64 (j : Nat) ∧ Hid (topB v (l.take j) = true) ∧ wr = w) (fun i _ => n - (intOf i).toNat)
 case atStart => exact ⟨0, Nat.zero_le _, rfl, Lib.hid rfl, rfl⟩
 case round =>
  obtain ⟨j, hj, rfl, HK, hww⟩ := hrel
  have hwx := hww.symm
  subst hwx
  clear hww
  by_cases hjn : j < n
  · obtain ⟨b, off, rfl, -, c0⟩ := Hc.out j hjn
    obtain ⟨x, hx⟩ : ∃ x, x = l.getD j 0 := ⟨_, rfl⟩
    rw [i64c, ← hx] at c0
    have e1 : (j : Int) < (n : Int) := by omega
    have e2 : (0 : Int) ≤ (j : Int) := by omega
    have hnx := topB_take v l j (by rw [Hl.out]; exact hjn)
    have hbd := topB_bad v l j (by rw [Hl.out]; exact hjn)
    rw [← hx, HK.out, Bool.true_and] at hnx
    rw [← hx] at hbd
    have Hnx := Lib.hid hnx; have Hbd := Lib.hid hbd
    clear hnx hx hbd
    by_cases hxv : v < x
    · have HB := Lib.hid (Hbd.out hxv)
      go_wp2
      go_ret
      exact ⟨by rw [HB.out]; rfl, rfl⟩
    · have HN : Hid (topB v (l.take (j + 1)) = true) := Lib.hid (by rw [Hnx.out]; exact decide_eq_true (by omega))
      go_wp2
      go_roundw
      case rel => exact ⟨j + 1, by omega, by go_num, HN, trivial⟩
      case measure => simp [intOf]; omega
  · obtain rfl : j = n := by omega
    have e1 : ¬ (j : Int) < (j : Int) := by omega
    have hk : topB v l = true := by have := HK.out; rwa [List.take_of_length_le (by rw [Hl.out]; exact Nat.le_refl _)] at this
    have Hk := Lib.hid hk
    clear hk
    go_wp2
    go_ret
    exact ⟨by rw [Hk.out]; rfl, rfl⟩
end Go.Proofs.YtebmbkbnngeabaaGreat
