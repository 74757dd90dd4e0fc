/- Chapter 8's law package: what a record is in memory; the walk over next. -/
import Derived.Test.YtebmbkbnngeabaaGreatPgW
import Derived.Test.YtebmbkbnngeabaaGreatBunB
import Derived.BigQuiet
set_option linter.unusedSimpArgs false
namespace Go.Proofs.YtebmbkbnngeabaaGreat
open Go.RowKit
set_option linter.unusedVariables false
theorem four_cellsT {w : World} {g T : Nat} {a b c d : Value} (h : w.heap[g]? = some (.cells #[a, b, c, d] T)) :
 w.cell? ⟨g, 0, none⟩ = some a ∧ w.cell? ⟨g, 1, none⟩ = some b ∧ w.cell? ⟨g, 2, none⟩ = some c ∧ w.cell? ⟨g, 3, none⟩ = some d ∧ w.frozen? ⟨g, 3, none⟩ = false := by
 refine ⟨?_, ?_, ?_, ?_, ?_⟩ <;> simp [World.cell?, World.frozen?, h]
theorem four_set3T {w : World} {g T : Nat} {a b c d : Value} (h : w.heap[g]? = some (.cells #[a, b, c, d] T)) (v : Value) : (w.setCell ⟨g, 3, none⟩ v).heap[g]? = some (.cells #[a, b, c, v] T) := by
 simp only [World.setCell, Array.getElem?_modify, h]; simp
structure MkC where
 F : List Fd
 P : Nat → Nat
 n : Nat
 aoS : Option Addr
 capS : Nat
 aoP : Option Addr
 capP : Nat
 ns : List Int
 aoN : Option Addr
 lN : Nat
 capN : Nat
def Mk (C : MkC) (w : World) (g a : Nat) : Prop :=
 w.heap[g]? = some (.cells #[.slice C.aoS C.n C.capS, .slice C.aoP C.n C.capP, .slice C.aoN C.lN C.capN, .int .i64 (a : Nat)] 128) ∧ a ≤ C.lN ∧
 CellsAt w g C.aoS (C.n * 4) (wc fdV C.F) ∧ CellsAt w g C.aoP C.n (i64c (parL C.P C.n)) ∧ CellsAt w g C.aoN C.lN (i64c C.ns)
theorem Mk.lt {C : MkC} {w : World} {g a : Nat} (h : Mk C w g a) : g < w.heap.size := (Array.getElem?_eq_some_iff.1 h.1).1
theorem Mk.keep {C : MkC} {w w' : World} {g a : Nat} (h : Mk C w g a) (hb : Below w.heap.size w w') : Mk C w' g a := by
 have hl := h.lt
 exact ⟨(hb.block g hl).trans h.1, h.2.1, h.2.2.1.below (hb.mono (Nat.le_of_lt hl)), h.2.2.2.1.below (hb.mono (Nat.le_of_lt hl)), h.2.2.2.2.below (hb.mono (Nat.le_of_lt hl))⟩
def GaveNx (C : MkC) (g : Nat) (w : World) (e : Ending) (w' : World) : Prop :=
 ∃ v a, e = .returned (.int .i64 v) ∧ Hid (-9223372036854775808 ≤ v ∧ v ≤ 9223372036854775807) ∧ Hid (Mk C w' g a) ∧ Hid (But g w w')
set_option maxHeartbeats 4000000 in
set_option maxRecDepth 100000 in
theorem next8_any (C : MkC) (g a : Nat) (w : World) (h : Mk C w g a) (hns : C.ns.length = C.lN) (hlN : C.lN ≤ 9223372036854775807) (hin : ∀ x ∈ C.ns, -9223372036854775808 ≤ x ∧ x ≤ 9223372036854775807) :
 Calls Tryz.prog 91 #[.pointer (some ⟨g, 0, none⟩)] w (GaveNx C g w) := by
 obtain ⟨k0, k1, k2, k3, kf⟩ := four_cellsT h.1
 obtain ⟨F, P, n, aoS, capS, aoP, capP, ns, aoN, lN, capN⟩ := C
 simp only at k0 k1 k2 k3 hns hlN hin
 have H := Lib.hid h
 have ha := h.2.1
 simp only at ha
 by_cases hlt : a < lN
 · have f1 : decide ((lN : Int) ≤ (a : Int)) = false := decide_eq_false (by omega)
   have f1' : ¬ (lN : Int) ≤ (a : Int) := by omega
   have f2 : (a : Int) < (lN : Int) := by omega
   have f3 : (0 : Int) ≤ (a : Int) := by omega
   have fw : IntKind.i64.wrap (((a : Int) + 1) - 1) = (a : Int) := by rw [IntWalk.i64_in _ (by omega)]; omega
   obtain ⟨b, off, hbe, hb, hcn⟩ := h.2.2.2.2 a hlt
   simp only at hbe
   subst hbe
   have hvin : Hid (-9223372036854775808 ≤ ns.getD a 0 ∧ ns.getD a 0 ≤ 9223372036854775807) := Lib.hid (by
    rw [List.getD_eq_getElem?_getD, List.getElem?_eq_getElem (by rw [hns]; exact hlt)]
    exact hin _ (List.getElem_mem _))
   have hcn : w.cell? ⟨b, off + a, none⟩ = some (.int .i64 (ns.getD a 0)) := hcn
   have hs := four_set3T h.1 (.int .i64 ((a : Int) + 1))
   obtain ⟨s0, s1, s2, s3, sf⟩ := four_cellsT hs
   simp only at s2
   have sn : (w.setCell ⟨g, 3, none⟩ (.int .i64 ((a : Int) + 1))).cell? ⟨b, off + a, none⟩ = some (.int .i64 (ns.getD a 0)) := cell_set_ne (by intro e; have := congrArg Addr.block e; simp only at this; omega) hcn
   have hB : But g w (w.setCell ⟨g, 3, none⟩ (.int .i64 ((a : Int) + 1))) := (But.refl g w).setCell 3 _
   have HM : Hid (Mk ⟨F, P, n, aoS, capS, aoP, capP, ns, some ⟨b, off, none⟩, lN, capN⟩ (w.setCell ⟨g, 3, none⟩ (.int .i64 ((a : Int) + 1))) g (a + 1)) := Lib.hid
    ⟨hs, hlt, hB.cells (Nat.le_of_lt h.lt) (Nat.le_refl _) h.2.2.1, hB.cells (Nat.le_of_lt h.lt) (Nat.le_refl _) h.2.2.2.1, hB.cells (Nat.le_of_lt h.lt) (Nat.le_refl _) h.2.2.2.2⟩
   have HB := Lib.hid hB
   clear h hs s0 s1 sf hin hns hB k0 k1 H
   go_enter Tryz.func91, Tryz.ntmps91
   go_wp2
   go_quiet (fail)
   go_wp2
   go_quiet (fail)
   go_wp2
   go_ret
   exact ⟨ns.getD a 0, a + 1, rfl, hvin, Lib.hid ((HM.out.keep (below_drewN (Below.refl _ _) _)).keep (below_drewN (Below.refl _ _) _)), Lib.hid ((HB.out.trans (But.of (below_drewN (Below.refl _ _) _))).trans (But.of (below_drewN (Below.refl _ _) _)))⟩
 · have f1 : decide ((lN : Int) ≤ (a : Int)) = true := decide_eq_true (by omega)
   have f1' : (lN : Int) ≤ (a : Int) := by omega
   clear h hin hns
   go_enter Tryz.func91, Tryz.ntmps91
   go_wp2
   go_quiet (fail)
   go_wp2
   go_ret
   exact ⟨0, a, rfl, Lib.hid ⟨by decide, by decide⟩, Lib.hid (H.out.keep (below_drewN (Below.refl _ _) _)), Lib.hid (But.of (below_drewN (Below.refl _ _) _))⟩
end Go.Proofs.YtebmbkbnngeabaaGreat
