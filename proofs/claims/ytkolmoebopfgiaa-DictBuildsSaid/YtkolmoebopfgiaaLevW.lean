/- Chapter 10: the walks over level's bytes, run, runs, group. -/
import Derived.Test.YtkolmoebopfgiaaLevQ
import Derived.Test.YtkolmoebopfgiaaMem2
import Derived.Test.YtkolmoebopfgiaaVarW
import Derived.Test.YtkolmoebopfgiaaPackK
import Derived.Test.YtkolmoebopfgiaaLinH
import Derived.Test.YtkolmoebopfgiaaCurPut
import Derived.Test.YtkolmoebopfgiaaUnpack
namespace Go.Proofs.Ytkolmoebopfgiaa
open Go.RowKit
set_option linter.unusedVariables false

/-- Levels as cells. -/
@[reducible] def nic (l : List Nat) (i : Nat) : Value := .int .i64 ((l.getD i 0 : Nat) : Int)
theorem nic_drop (l : List Nat) (m i : Nat) : nic (l.drop m) i = nic l (m + i) := by
  simp [nic, List.getD_eq_getElem?_getD]
theorem nic_take (l : List Nat) (m i : Nat) (h : i < m) : nic (l.take m) i = nic l i := by
  simp [nic, List.getD_eq_getElem?_getD, h]
theorem drop_nic {w : World} {B : Nat} {ao : Option Addr} {n p m : Nat} {l : List Nat} (h : CellsAt w B ao n (nic l)) (hp : p + m ≤ n) : CellsAt w B (ao.map (·.add p)) m (nic ((l.drop p).take m)) := by
  intro i hi
  obtain ⟨b, off, rfl, hb, hc⟩ := h (p + i) (by omega)
  refine ⟨b, off + p, by simp [Addr.add_lit], hb, ?_⟩
  rw [nic_take _ _ _ hi, nic_drop, ← hc, Nat.add_assoc]
theorem Try.infoI : (Try.prog.info? 3).map (fun i => (i.zero, i.size, i.bytes)) = some (some (.int .i64 0), 1, 8) := by kernel_rfl
theorem sl_i : SlT Try.prog 26 3 1 8 (.int .i64 0) := ⟨Try.underlying26, Try.infoI, rfl, by decide⟩

set_option maxHeartbeats 400000 in
theorem lbytes_any (wd : Nat) (w : World) (h : wd ≤ 16) : Calls Try.prog 48 #[.int .i64 (wd : Nat)] w fun e w' => e = .returned (.int .i64 (((wd + 7) / 8 : Nat) : Int)) ∧ w = w' := by
  have e1 : Hid (((wd : Int) + 8 - 1) / 8 = (((wd + 7) / 8 : Nat) : Int)) := Lib.hid (by omega)
  go_enter Try.func48, Try.ntmps48
  go_wp2
  go_ret
  exact ⟨by rw [← e1.out]; rfl, rfl⟩

set_option maxHeartbeats 1000000 in
theorem lrun_any (ao : Option Addr) (n cap : Nat) (l : List Nat) (w : World) (hl : l.length = n) (hn : n ≤ 9223372036854775807) (hc : CellsAt w w.heap.size ao n (nic l)) :
    Calls Try.prog 45 #[.slice ao n cap] w fun e w' => e = .returned (.int .i64 (sameN l : Nat)) ∧ ∃ m, w' = w.drewN m := by
  have Hl := Lib.hid hl; clear hl
  go_enter Try.func45, Try.ntmps45
  go_wp2
  go_loopw [6] (fun i wr => ∃ k m : Nat, k ≤ n ∧ i = .int .i64 k ∧ wr = w.drewN m ∧ Hid (∀ j, j < k → l.getD j 0 = l.getD 0 0)) (fun i _ => n - (intOf i).toNat)
  case atStart => exact ⟨0, 0, Nat.zero_le _, rfl, rfl, Lib.hid (fun j hj => by omega)⟩
  case round =>
    obtain ⟨k, m, hk, rfl, rfl, hsame⟩ := hrel
    by_cases hlt : k < n
    · obtain ⟨b, off, rfl, -, ck⟩ := hc k hlt
      obtain ⟨_, _, e0, -, c0⟩ := hc 0 (by omega)
      cases e0
      obtain ⟨x, hx⟩ : ∃ x, x = l.getD k 0 := ⟨_, rfl⟩
      obtain ⟨y, hy⟩ : ∃ y, y = l.getD 0 0 := ⟨_, rfl⟩
      rw [nic, ← hx] at ck
      rw [nic, ← hy, Nat.add_zero] at c0
      have e1 : (k : Int) < (n : Int) := by omega
      have e2 : (0 : Int) ≤ (k : Int) := by omega
      have e3 : (0 : Int) < (n : Int) := by omega
      have Hx := Lib.hid hx; have Hy := Lib.hid hy
      clear hx hy hc
      by_cases hxy : x = y
      · have b1 : ((x : Int) != (y : Int)) = false := by rw [bne_eq_false_iff_eq]; omega
        have hs : Hid (∀ j, j < k + 1 → l.getD j 0 = l.getD 0 0) := Lib.hid (fun j hj => by
          by_cases h : j < k
          · exact hsame.out j h
          · obtain rfl : j = k := by omega
            rw [← Hx.out, ← Hy.out, hxy])
        clear hxy
        go_wp2
        go_quiet (fail)
        go_wp2
        go_roundw
        case rel => exact ⟨k + 1, m + nq, by omega, by go_num, rfl, hs⟩
        case measure => simp [intOf]; omega
      · have b1 : ((x : Int) != (y : Int)) = true := by rw [bne_iff_ne]; omega
        have hk0 : 0 < k := by
          rcases Nat.eq_zero_or_pos k with h | h
          · subst h; exact absurd (Hx.out.trans Hy.out.symm) hxy
          · exact h
        have hs : Hid (sameN l = k) := Lib.hid (sameN_of l k hk0 (by rw [Hl.out]; omega) hsame.out (.inr (by rw [← Hx.out, ← Hy.out]; exact hxy)))
        clear hxy
        go_wp2
        go_quiet (fail)
        go_wp2
        go_ret
        exact ⟨by rw [hs.out]; rfl, m + nq, by simp⟩
    · obtain rfl : k = n := by omega
      have hs : Hid (sameN l = k) := by
        rcases Nat.eq_zero_or_pos k with h | h
        · subst h
          rw [List.length_eq_zero_iff.1 Hl.out]; exact Lib.hid rfl
        · exact Lib.hid (sameN_of l k h (by rw [Hl.out]; exact Nat.le_refl _) hsame.out (.inl Hl.out.symm))
      go_wp2
      go_ret
      exact ⟨by rw [hs.out]; rfl, m, rfl⟩

set_option maxHeartbeats 1000000 in
theorem lruns_any (ao : Option Addr) (n cap : Nat) (l : List Nat) (w : World) (hl : l.length = n) (hn : n ≤ 9223372036854775807) (hc : CellsAt w w.heap.size ao n (nic l)) :
    Calls Try.prog 44 #[.slice ao n cap] w fun e w' => e = .returned (.bool (isRun l)) ∧ ∃ m, w' = w.drewN m := by
  have hR := fun w' h => lrun_any ao n cap l w' hl hn h
  have hs := sameN_le l
  rw [hl] at hs
  have hi : isRun l = decide (8 ≤ sameN l ∨ sameN l = n) := by unfold isRun; rw [hl]
  obtain ⟨s, hse⟩ : ∃ s, s = sameN l := ⟨_, rfl⟩
  rw [← hse] at hR hs hi
  rw [hi]
  clear hse hl hi
  have HR := Lib.hid hR; clear hR
  by_cases h8 : 8 ≤ s
  · have e1 : (8 : Int) ≤ (s : Int) := by omega
    go_enter Try.func44, Try.ntmps44
    go_wp2_with fail
    refine (HR.out _ hc).mono ?_
    rintro e x ⟨rfl, m, rfl⟩
    go_wp2
    go_ret
    exact ⟨by simp [h8], m, rfl⟩
  · have e1 : ¬ (8 : Int) ≤ (s : Int) := by omega
    by_cases hsn : s = n
    · have b1 : ((s : Int) == (n : Int)) = true := by rw [beq_iff_eq]; omega
      have hd : decide (8 ≤ s ∨ s = n) = true := decide_eq_true (.inr hsn)
      have Hd := Lib.hid hd
      clear hsn hd h8
      go_enter Try.func44, Try.ntmps44
      go_wp2_with fail
      refine (HR.out _ hc).mono ?_
      rintro e x ⟨rfl, m, rfl⟩
      go_wp2
      go_ret
      exact ⟨by rw [Hd.out]; simp_all, m, rfl⟩
    · have b1 : ((s : Int) == (n : Int)) = false := by rw [beq_eq_false_iff_ne]; omega
      have hd : decide (8 ≤ s ∨ s = n) = false := decide_eq_false (by omega)
      have Hd := Lib.hid hd
      clear hsn hd h8
      go_enter Try.func44, Try.ntmps44
      go_wp2_with fail
      refine (HR.out _ hc).mono ?_
      rintro e x ⟨rfl, m, rfl⟩
      go_wp2
      go_ret
      exact ⟨by rw [Hd.out]; simp_all, m, rfl⟩

/-- The group while it is laid: j of the first ones, noughts behind. -/
def gTo (l : List Nat) (j : Nat) : List Nat := l.take j ++ List.replicate (8 - j) 0
theorem gTo_length (l : List Nat) (j : Nat) (hj : j ≤ 8) (hl : j ≤ l.length) : (gTo l j).length = 8 := by simp [gTo]; omega
theorem gTo_set (l : List Nat) (j : Nat) (hj : j < 8) (hl : j < l.length) : (gTo l j).set j (l.getD j 0) = gTo l (j + 1) := by
  unfold gTo
  have hk : (l.take j).length = j := by simp; omega
  rw [List.set_append_right _ _ (by rw [hk]; exact Nat.le_refl _), hk, Nat.sub_self, show 8 - j = (8 - (j + 1)) + 1 by omega, List.replicate_succ, List.set_cons_zero]
  rw [List.take_succ_eq_append_getElem hl, List.getD_eq_getElem?_getD, List.getElem?_eq_getElem hl]
  simp only [List.append_assoc, List.singleton_append, Option.getD_some]
theorem gTo_full (l : List Nat) (m : Nat) (h : m = min l.length 8) : gTo l m = pad8 l := by
  unfold gTo pad8
  subst h
  by_cases h8 : l.length ≤ 8
  · rw [Nat.min_eq_left h8, List.take_of_length_le (Nat.le_refl _), List.take_of_length_le h8]
  · rw [Nat.min_eq_right (by omega), show 8 - l.length = 0 by omega]
set_option maxHeartbeats 1000000 in
theorem lgroup_any (ao : Option Addr) (n cap : Nat) (l : List Nat) (w : World) (hl : l.length = n) (hn : n ≤ 9223372036854775807) (hcap : n ≤ cap) (hc : CellsAt w w.heap.size ao n (nic l)) (hb : ∀ x ∈ l, x < 18446744073709551616) :
    Calls Try.prog 49 #[.slice ao n cap] w (GaveFresh w 68 (u64v (pad8 l))) := by
  have Hl := Lib.hid hl; clear hl
  have Hb := Lib.hid hb; clear hb
  obtain ⟨i0, hi, hz0, hz1, hz2⟩ := info_parts Try.infoU64
  by_cases h8 : n ≤ 8
  · have hm : Hid (n = min l.length 8) := Lib.hid (by have h2 := Hl.out; omega)
    have hm8 : n ≤ 8 := by omega
    have hmn : n ≤ n := by omega
    have e8 : (n : Int) ≤ 8 := by omega
    have hnc : (n : Int) ≤ (cap : Int) := by omega
    go_enter Try.func49, Try.ntmps49
    go_wp2_with (at_make; refine wpList_make_full _ rfl _ _ 77 rfl w.heap.size 68 i0 (.int .u64 0) 1 Try.underlying77 hi hz0 hz1 _ _ _ _ 8 rfl rfl rfl rfl ?b2 ?b3 (Nat.le_refl _) ?_)
    case b2 => first | omega | (rw [hz2]; omega)
    case b3 => unfold maxLen; omega
    intro w0 hown0 hgrow0
    rw [madeU64] at hown0
    have hb0 : Below w.heap.size w w0 := (Below.refl _ _).grown hgrow0 (Nat.le_refl _) (fun k h => by cases h)
    have hown : w0.ownsRow w.heap.size 68 1 (.slice (some ⟨w.heap.size, 0, none⟩) 8 8) 8 (u64v (gTo l 0)) := by
      have e : gTo l 0 = List.replicate 8 0 := by simp [gTo]
      rw [e]; exact hown0
    clear hown0 hgrow0
    go_wp2
    go_loopw [13] (fun i wr => ∃ j : Nat, j ≤ n ∧ i = .int .i64 j ∧ wr.ownsRow w.heap.size 68 1 (.slice (some ⟨w.heap.size, 0, none⟩) 8 8) 8 (u64v (gTo l j)) ∧ Below w.heap.size w wr) (fun i _ => n - (intOf i).toNat)
    case atStart => exact ⟨0, Nat.zero_le _, rfl, hown, hb0⟩
    case round =>
      clear hown hb0
      obtain ⟨j, hj, rfl, hown, hwr⟩ := hrel
      by_cases hlt : j < n
      · obtain ⟨b, off, rfl, hb, c0⟩ := hc j (by omega)
        have c0' := (hwr.cell (by exact hb)).trans c0
        obtain ⟨x, hx⟩ : ∃ x, x = l.getD j 0 := ⟨_, rfl⟩
        rw [nic, ← hx] at c0'
        have hx64 : x < 18446744073709551616 := by
          rw [hx, List.getD_eq_getElem?_getD, List.getElem?_eq_getElem (by rw [Hl.out]; omega)]; exact Hb.out _ (List.getElem_mem _)
        have hcell := cell_u64 hown j (by omega)
        have hfr := hown.frozenAt j
        have hst := stored_u64 hown j (x := (x : Int)) (y := x) rfl
        rw [hx, gTo_set l j (by omega) (by rw [Hl.out]; omega), ← hx] at hst
        have Hst := Lib.hid hst
        have hsx : Below w.heap.size w (wr.setCell ⟨w.heap.size, j, none⟩ (.int .u64 (x : Nat))) := hwr.setCell (by exact Nat.le_refl _) _
        have Hwr := Lib.hid hsx
        have e1 : (j : Int) < (n : Int) := by omega
        have e2 : (0 : Int) ≤ (j : Int) := by omega
        have e3 : (j : Int) < 8 := by omega
        clear hst hx hown hwr hc c0 hsx
        go_wp2
        go_roundw
        case rel => exact ⟨j + 1, by omega, by go_num, Hst.out, Hwr.out⟩
        case measure => simp [intOf]; omega
      · have hjm : j = n := by omega
        have hf := gTo_full l n hm.out
        rw [hjm, hf] at hown
        have Hown := Lib.hid hown; have Hwr := Lib.hid hwr
        have e1 : ¬ (j : Int) < (n : Int) := by omega
        clear hown hwr hjm hc
        go_wp2
        go_ret
        exact ⟨_, rfl, by rw [u64v_length, pad8_length]; exact Hown.out, Hwr.out⟩
  · have hm : Hid (8 = min l.length 8) := Lib.hid (by have h2 := Hl.out; omega)
    have hm8 : 8 ≤ 8 := by omega
    have hmn : 8 ≤ n := by omega
    have e8 : ¬ (n : Int) ≤ 8 := by omega
    have hnc : (8 : Int) ≤ (cap : Int) := by omega
    go_enter Try.func49, Try.ntmps49
    go_wp2_with (at_make; refine wpList_make_full _ rfl _ _ 77 rfl w.heap.size 68 i0 (.int .u64 0) 1 Try.underlying77 hi hz0 hz1 _ _ _ _ 8 rfl rfl rfl rfl ?b4 ?b5 (Nat.le_refl _) ?_)
    case b5 => unfold maxLen; omega
    intro w0 hown0 hgrow0
    rw [madeU64] at hown0
    have hb0 : Below w.heap.size w w0 := (Below.refl _ _).grown hgrow0 (Nat.le_refl _) (fun k h => by cases h)
    have hown : w0.ownsRow w.heap.size 68 1 (.slice (some ⟨w.heap.size, 0, none⟩) 8 8) 8 (u64v (gTo l 0)) := by
      have e : gTo l 0 = List.replicate 8 0 := by simp [gTo]
      rw [e]; exact hown0
    clear hown0 hgrow0
    go_wp2
    go_loopw [13] (fun i wr => ∃ j : Nat, j ≤ 8 ∧ i = .int .i64 j ∧ wr.ownsRow w.heap.size 68 1 (.slice (some ⟨w.heap.size, 0, none⟩) 8 8) 8 (u64v (gTo l j)) ∧ Below w.heap.size w wr) (fun i _ => 8 - (intOf i).toNat)
    case atStart => exact ⟨0, Nat.zero_le _, rfl, hown, hb0⟩
    case round =>
      clear hown hb0
      obtain ⟨j, hj, rfl, hown, hwr⟩ := hrel
      by_cases hlt : j < 8
      · obtain ⟨b, off, rfl, hb, c0⟩ := hc j (by omega)
        have c0' := (hwr.cell (by exact hb)).trans c0
        obtain ⟨x, hx⟩ : ∃ x, x = l.getD j 0 := ⟨_, rfl⟩
        rw [nic, ← hx] at c0'
        have hx64 : x < 18446744073709551616 := by
          rw [hx, List.getD_eq_getElem?_getD, List.getElem?_eq_getElem (by rw [Hl.out]; omega)]; exact Hb.out _ (List.getElem_mem _)
        have hcell := cell_u64 hown j (by omega)
        have hfr := hown.frozenAt j
        have hst := stored_u64 hown j (x := (x : Int)) (y := x) rfl
        rw [hx, gTo_set l j (by omega) (by rw [Hl.out]; omega), ← hx] at hst
        have Hst := Lib.hid hst
        have hsx : Below w.heap.size w (wr.setCell ⟨w.heap.size, j, none⟩ (.int .u64 (x : Nat))) := hwr.setCell (by exact Nat.le_refl _) _
        have Hwr := Lib.hid hsx
        have e1 : (j : Int) < (8 : Int) := by omega
        have e2 : (0 : Int) ≤ (j : Int) := by omega
        have e3 : (j : Int) < 8 := by omega
        clear hst hx hown hwr hc c0 hsx
        go_wp2
        go_roundw
        case rel => exact ⟨j + 1, by omega, by go_num, Hst.out, Hwr.out⟩
        case measure => simp [intOf]; omega
      · have hjm : j = 8 := by omega
        have hf := gTo_full l 8 hm.out
        rw [hjm, hf] at hown
        have Hown := Lib.hid hown; have Hwr := Lib.hid hwr
        have e1 : ¬ (j : Int) < (8 : Int) := by omega
        clear hown hwr hjm hc
        go_wp2
        go_ret
        exact ⟨_, rfl, by rw [u64v_length, pad8_length]; exact Hown.out, Hwr.out⟩
end Go.Proofs.Ytkolmoebopfgiaa
