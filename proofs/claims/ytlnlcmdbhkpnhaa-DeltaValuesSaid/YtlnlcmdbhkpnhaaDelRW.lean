/- Chapter 12: the walks over the reader. -/
import Derived.Test.YtlnlcmdbhkpnhaaDelW
import Derived.Test.YtlnlcmdbhkpnhaaBunA
import Derived.Test.YtlnlcmdbhkpnhaaBunB
namespace Go.Proofs.Ytlnlcmdbhkpnhaa
open Go.RowKit
set_option linter.unusedVariables false

/-- A reader: what is left, the numbers. -/
def DRd (w : World) (g : Nat) (b : List Nat) (l : List Int) : Prop :=
  ∃ aoB capB aoL capL, w.heap[g]? = some (.cells #[.slice aoB b.length capB, .slice aoL l.length capL] 66) ∧ CellsAt w g aoB b.length (u8c b) ∧ b.length ≤ capB ∧ w.ownsRow (g + 1) 3 1 (.slice aoL l.length capL) l.length (i64v l)
theorem DRd.lt {w : World} {g : Nat} {b : List Nat} {l : List Int} (h : DRd w g b l) : g < w.heap.size := by
  obtain ⟨_, _, _, _, h, -⟩ := h
  exact (Array.getElem?_eq_some_iff.1 h).1
theorem DRd.keep {w w' : World} {g : Nat} {b : List Nat} {l : List Int} (h : DRd w g b l) (hb : Below w.heap.size w w') : DRd w' g b l := by
  have hlt := h.lt
  obtain ⟨aoB, capB, aoL, capL, h1, h2, h3, h4⟩ := h
  exact ⟨aoB, capB, aoL, capL, (hb.block g hlt).trans h1, h2.below (hb.mono (Nat.le_of_lt hlt)), h3, own_below h4 hb⟩

theorem own_past {w : World} {B e size : Nat} {v : Value} {n : Nat} {xs : List Value} (h : w.ownsRow (B + 1) e size v n xs) : v.ownBlock = none ∨ v.ownBlock ≠ some B := by
  rcases h.2 with ⟨rfl, -⟩ | ⟨g1, c1, cur1, rfl, hb, -⟩
  · exact .inl rfl
  · right
    simp only [Value.ownBlock, ne_eq, Option.some.injEq]
    omega
theorem grown_set (w : World) (g o : Nat) (v : Value) : w.grownBy (w.setCell ⟨g, o, none⟩ v) (some g) :=
  ⟨rfl, rfl, rfl, by simp [World.setCell], fun k _ hk => Below.heap_setCell _ _ _ k (fun e => hk (by rw [e]))⟩
/-- The reader goes on. -/
theorem DRd.go {w : World} {g : Nat} {b : List Nat} {l : List Int} {bb off capB capL : Nat} {aoL : Option Addr} (hg : w.heap[g]? = some (.cells #[.slice (some ⟨bb, off, none⟩) b.length capB, .slice aoL l.length capL] 66))
    (hc : CellsAt w g (some ⟨bb, off, none⟩) b.length (u8c b)) (hcap : b.length ≤ capB) (hr : w.ownsRow (g + 1) 3 1 (.slice aoL l.length capL) l.length (i64v l)) (n : Nat) (hn : n ≤ b.length) (v : Value)
    (hv : v = .slice (some ⟨bb, off + n, none⟩) (b.length - n) (capB - n) ∨ (n = capB ∧ v = .slice (some ⟨bb, off, none⟩) 0 0)) : DRd (w.setCell ⟨g, 0, none⟩ v) g (b.drop n) l := by
  have h0 := two_set0 hg v
  have hr2 := hr.kept (grown_set w g 0 v) (own_past hr)
  rcases hv with rfl | ⟨rfl, rfl⟩
  · refine ⟨some ⟨bb, off + n, none⟩, capB - n, aoL, capL, by rw [List.length_drop]; exact h0, ?_, by rw [List.length_drop]; omega, hr2⟩
    rw [List.length_drop]
    intro i hi
    obtain ⟨_, _, e, hb, hcc⟩ := hc (n + i) (by omega)
    cases e
    refine ⟨bb, off + n, rfl, hb, ?_⟩
    rw [World.cell?_of_block (Below.heap_setCell _ _ _ bb (Nat.ne_of_lt hb)), Nat.add_assoc, hcc]
    simp [List.getD_eq_getElem?_getD, List.getElem?_drop]
  · have hl : b.drop n = [] := List.drop_eq_nil_of_le (by omega)
    rw [hl]
    exact ⟨some ⟨bb, off, none⟩, 0, aoL, capL, h0, CellsAt.zero, Nat.le_refl _, hr2⟩

set_option maxHeartbeats 2000000 in
theorem dzig_any (g : Nat) (b : List Nat) (l : List Int) (w : World) (h : DRd w g b l) (h256 : ∀ x ∈ b, x < 256) (hL : b.length ≤ 1000000) :
    Calls Try.prog 34 #[.pointer (some ⟨g, 0, none⟩)] w fun e w' => e = .returned (.tuple #[.int .i64 (zigR b).1, .int .i64 ((zigR b).2.2 : Nat)]) ∧ DRd w' g (zigR b).2.1 l ∧ But g w w' := by
  have hR := Lib.hid h
  have hlt := h.lt
  obtain ⟨aoB, capB, aoL, capL, hg, hcB, hcapB, hrow⟩ := h
  obtain ⟨c0, c1, f0, f1⟩ := two_cells hg
  have HV := Lib.hid (vget_any aoB b.length capB b w rfl h256 (by omega) (hcB.mono (Nat.le_of_lt hlt)))
  have hle := (vgetR_n b 0 0).1
  have hpos := (vgetR_n b 0 0).2
  have hu := vgetM_lt b
  obtain ⟨u, hu0⟩ : ∃ u, u = (vgetM b).1 := ⟨_, rfl⟩
  obtain ⟨n, hn0⟩ : ∃ n, n = (vgetM b).2.1 := ⟨_, rfl⟩
  obtain ⟨er, he0⟩ : ∃ n, n = (vgetM b).2.2 := ⟨_, rfl⟩
  have hnL : n ≤ b.length := by rw [hn0]; unfold vgetM; omega
  have hpos2 : er = 0 → 0 < n := by rw [he0, hn0]; exact hpos
  rw [← hu0] at hu
  by_cases h0 : er = 0
  · obtain ⟨bb, off, rfl, hbb, -⟩ := hcB 0 (by have := hpos2 h0; omega)
    have hz : Hid (zigR b = (zagI u, b.drop n, 0)) := Lib.hid (by unfold zigR; rw [← he0, ← hu0, ← hn0, if_neg (by simp [h0])])
    rw [← hu0, ← hn0, ← he0, h0] at HV
    have hu64 : Hid (u < 18446744073709551616) := Lib.hid hu
    have Hg := Lib.hid hg; have HcB := Lib.hid hcB; have Hrow := Lib.hid hrow
    have e1 : (n : Int) ≤ (b.length : Int) := by omega
    have e2 : (0 : Int) ≤ (n : Int) := by omega
    have e3 : (b.length : Int) ≤ (capB : Int) := by omega
    clear hu0 hn0 he0 hle hu hg hcB hrow h256
    by_cases hnc : capB = n
    · subst hnc
      go_enter Try.func34, Try.ntmps34
      go_wp2_with fail
      refine HV.out.mono ?_
      rintro e x ⟨rfl, rfl⟩
      go_wp2_with fail
      refine (zag_any u _ hu64.out).mono ?_
      rintro e x ⟨rfl, rfl⟩
      go_wp2
      go_ret2
      rw [hz.out]
      exact ⟨rfl, DRd.go Hg.out HcB.out hcapB Hrow.out capB hnL _ (.inr ⟨rfl, rfl⟩), (But.refl _ _).setCell _ _⟩
    · have hnc1 : n ≠ capB := fun e => hnc e.symm
      have hnc2 : n < capB := by omega
      go_enter Try.func34, Try.ntmps34
      go_wp2_with fail
      refine HV.out.mono ?_
      rintro e x ⟨rfl, rfl⟩
      go_wp2_with fail
      refine (zag_any u _ hu64.out).mono ?_
      rintro e x ⟨rfl, rfl⟩
      go_wp2
      go_ret2
      rw [hz.out]
      exact ⟨rfl, DRd.go Hg.out HcB.out hcapB Hrow.out n hnL _ (.inl rfl), (But.refl _ _).setCell _ _⟩
  · have hz : Hid (zigR b = (0, b, er)) := Lib.hid (by unfold zigR; rw [← he0, if_pos h0])
    rw [← hu0, ← hn0, ← he0] at HV
    have hb0 : ((er : Int) == 0) = false := by rw [beq_eq_false_iff_ne]; omega
    have hb1 : (er : Int) ≠ 0 := by omega
    clear hu0 hn0 he0 hle hu hg hcB hrow h256
    go_enter Try.func34, Try.ntmps34
    go_wp2_with fail
    refine HV.out.mono ?_
    rintro e x ⟨rfl, rfl⟩
    go_wp2
    go_ret2
    rw [hz.out]
    exact ⟨rfl, hR.out, But.refl _ _⟩
end Go.Proofs.Ytlnlcmdbhkpnhaa
