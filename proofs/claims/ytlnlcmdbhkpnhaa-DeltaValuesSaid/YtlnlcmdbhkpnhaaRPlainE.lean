/- Chapter 11: the walk over the document's Encode. -/
import Derived.Test.YtlnlcmdbhkpnhaaPlainP
import Derived.Test.YtlnlcmdbhkpnhaaRPut
import Derived.Test.YtlnlcmdbhkpnhaaBunB
namespace Go.Proofs.Ytlnlcmdbhkpnhaa
open Go.RowKit
set_option linter.unusedVariables false

set_option maxHeartbeats 4000000 in
set_option maxRecDepth 100000 in
theorem rplainE_2 (ao : Option Addr) (len cap : Nat) (l : List Vl) (w : World) (hl : l.length = len) (hlen : len ≤ 4000) (hs : ∀ v ∈ l, v.2.size ≤ 100) (hc : CellsAt w w.heap.size ao (len * 2) (vlc l)) :
    Calls Try.prog 48 #[.int .i64 2, .slice ao len cap] w fun e w' => ∃ v, e = .returned v ∧ Fresh w w' 5 v (u8v (encs 2 l)) := by
  have Hl := Lib.hid hl; clear hl
  have Hs := Lib.hid hs; clear hs
  go_enter Try.func48, Try.ntmps48
  go_wp2
  go_loopw [5, 6, 7] (fun v tr i wr => ∃ j n : Nat, j ≤ len ∧ tr = .slice none 0 0 ∧ i = .int .i64 j ∧ Hid (n = (encs 2 (l.take j)).length) ∧ n ≤ 104 * j ∧ wr.ownsRow w.heap.size 5 1 v n (u8v (encs 2 (l.take j))) ∧ Below w.heap.size w wr) (fun _ _ i _ => len - (intOf i).toNat)
  case atStart => exact ⟨0, 0, Nat.zero_le _, rfl, rfl, Lib.hid rfl, Nat.zero_le _, World.ownsRow_nil _ _ _ _, Below.refl _ _⟩
  case round =>
    obtain ⟨j, n, hj, rfl, rfl, hn, hn2, hown, hwr⟩ := hrel
    by_cases hlt : j < len
    · obtain ⟨b, off, rfl, hb, c0, c1⟩ := hc.val hlt
      have c0' := (hwr.cell (by exact hb)).trans c0
      have c1' := (hwr.cell (by exact hb)).trans c1
      clear c0 c1 hc
      obtain ⟨v, hv⟩ : ∃ v, v = l.getD j vl0 := ⟨_, rfl⟩
      rw [vN, ← hv] at c0'
      rw [vS, ← hv] at c1'
      have htk : Hid (encs 2 (l.take (j + 1)) = encs 2 (l.take j) ++ lowB (u64of v.1) 4) := Lib.hid (by
        rw [take_vl l j (by rw [Hl.out]; exact hlt), encs_snoc, ← hv]; rfl)
      clear hv
      obtain ⟨aoB, capB, rfl, hlB, hcB, hnB⟩ := own_u8c hown
      have hHl := Lib.hid hlB; clear hlB
      have e1 : (j : Int) < (len : Int) := by omega
      have e2 : (0 : Int) ≤ (j : Int) := by omega
      have hw : IntKind.u64.wrap v.1 = (u64of v.1 : Nat) := by rw [IntKind.wrap_u64]; exact u64of_eq _
      have hu := u64of_lt v.1
      go_wp2_with fail
      refine (rput_n aoB n capB (encs 2 (l.take j)) 4 4 (u64of v.1) _ hHl.out hcB (fun e => (hnB e).1) (by omega) hu (.inr ⟨rfl, by decide⟩)).mono ?_
      rintro e x1 ⟨ao1, cap1, rfl, hc1, hn1, hr1, hx1⟩
      obtain ⟨L, hL⟩ : ∃ L, L = (encs 2 (l.take j) ++ lowB (u64of v.1) 4).length := ⟨_, rfl⟩
      have hL2 : Hid (L = n + 4) := Lib.hid (by rw [hL, List.length_append, lowB_length, hHl.out])
      have ho1 := own_base (hr1.own (by have := hL2.out; omega)) (base' := w.heap.size) hwr.size
      rw [← hL] at ho1 ⊢
      rw [← htk.out] at ho1
      have hwr1 : Below w.heap.size w x1 := bmore hwr hx1
      have Htk : Hid (L = (encs 2 (l.take (j + 1))).length) := Lib.hid (by rw [htk.out, ← hL])
      clear hL hc1 hn1 hr1 hx1 hcB hown hwr
      go_wp2
      go_roundw
      case rel => exact ⟨j + 1, L, by omega, rfl, by go_num, Htk, by have := hL2.out; omega, ho1, hwr1⟩
      case measure => simp [intOf]; omega
    · obtain rfl : j = len := by omega
      have hall : l.take j = l := List.take_of_length_le (by rw [Hl.out]; exact Nat.le_refl _)
      rw [hall] at hown
      have Hn : Hid (n = (encs 2 l).length) := Lib.hid (by rw [hn.out, hall])
      clear hn hall hc
      go_wp2
      go_ret
      exact ⟨_, rfl, ⟨by rw [u8v_length, ← Hn.out]; exact hown, hwr⟩⟩

set_option maxHeartbeats 4000000 in
set_option maxRecDepth 100000 in
theorem rplainE_3 (ao : Option Addr) (len cap : Nat) (l : List Vl) (w : World) (hl : l.length = len) (hlen : len ≤ 4000) (hs : ∀ v ∈ l, v.2.size ≤ 100) (hc : CellsAt w w.heap.size ao (len * 2) (vlc l)) :
    Calls Try.prog 48 #[.int .i64 3, .slice ao len cap] w fun e w' => ∃ v, e = .returned v ∧ Fresh w w' 5 v (u8v (encs 3 l)) := by
  have Hl := Lib.hid hl; clear hl
  have Hs := Lib.hid hs; clear hs
  go_enter Try.func48, Try.ntmps48
  go_wp2
  go_loopw [5, 6, 7] (fun v tr i wr => ∃ j n : Nat, j ≤ len ∧ tr = .slice none 0 0 ∧ i = .int .i64 j ∧ Hid (n = (encs 3 (l.take j)).length) ∧ n ≤ 104 * j ∧ wr.ownsRow w.heap.size 5 1 v n (u8v (encs 3 (l.take j))) ∧ Below w.heap.size w wr) (fun _ _ i _ => len - (intOf i).toNat)
  case atStart => exact ⟨0, 0, Nat.zero_le _, rfl, rfl, Lib.hid rfl, Nat.zero_le _, World.ownsRow_nil _ _ _ _, Below.refl _ _⟩
  case round =>
    obtain ⟨j, n, hj, rfl, rfl, hn, hn2, hown, hwr⟩ := hrel
    by_cases hlt : j < len
    · obtain ⟨b, off, rfl, hb, c0, c1⟩ := hc.val hlt
      have c0' := (hwr.cell (by exact hb)).trans c0
      have c1' := (hwr.cell (by exact hb)).trans c1
      clear c0 c1 hc
      obtain ⟨v, hv⟩ : ∃ v, v = l.getD j vl0 := ⟨_, rfl⟩
      rw [vN, ← hv] at c0'
      rw [vS, ← hv] at c1'
      have htk : Hid (encs 3 (l.take (j + 1)) = encs 3 (l.take j) ++ lowB (u64of v.1) 8) := Lib.hid (by
        rw [take_vl l j (by rw [Hl.out]; exact hlt), encs_snoc, ← hv]; rfl)
      clear hv
      obtain ⟨aoB, capB, rfl, hlB, hcB, hnB⟩ := own_u8c hown
      have hHl := Lib.hid hlB; clear hlB
      have e1 : (j : Int) < (len : Int) := by omega
      have e2 : (0 : Int) ≤ (j : Int) := by omega
      have hw : IntKind.u64.wrap v.1 = (u64of v.1 : Nat) := by rw [IntKind.wrap_u64]; exact u64of_eq _
      have hu := u64of_lt v.1
      go_wp2_with fail
      refine (rput_n aoB n capB (encs 3 (l.take j)) 8 8 (u64of v.1) _ hHl.out hcB (fun e => (hnB e).1) (by omega) hu (.inr ⟨rfl, by decide⟩)).mono ?_
      rintro e x1 ⟨ao1, cap1, rfl, hc1, hn1, hr1, hx1⟩
      obtain ⟨L, hL⟩ : ∃ L, L = (encs 3 (l.take j) ++ lowB (u64of v.1) 8).length := ⟨_, rfl⟩
      have hL2 : Hid (L = n + 8) := Lib.hid (by rw [hL, List.length_append, lowB_length, hHl.out])
      have ho1 := own_base (hr1.own (by have := hL2.out; omega)) (base' := w.heap.size) hwr.size
      rw [← hL] at ho1 ⊢
      rw [← htk.out] at ho1
      have hwr1 : Below w.heap.size w x1 := bmore hwr hx1
      have Htk : Hid (L = (encs 3 (l.take (j + 1))).length) := Lib.hid (by rw [htk.out, ← hL])
      clear hL hc1 hn1 hr1 hx1 hcB hown hwr
      go_wp2
      go_roundw
      case rel => exact ⟨j + 1, L, by omega, rfl, by go_num, Htk, by have := hL2.out; omega, ho1, hwr1⟩
      case measure => simp [intOf]; omega
    · obtain rfl : j = len := by omega
      have hall : l.take j = l := List.take_of_length_le (by rw [Hl.out]; exact Nat.le_refl _)
      rw [hall] at hown
      have Hn : Hid (n = (encs 3 l).length) := Lib.hid (by rw [hn.out, hall])
      clear hn hall hc
      go_wp2
      go_ret
      exact ⟨_, rfl, ⟨by rw [u8v_length, ← Hn.out]; exact hown, hwr⟩⟩

set_option maxHeartbeats 4000000 in
set_option maxRecDepth 100000 in
theorem rplainE_4 (ao : Option Addr) (len cap : Nat) (l : List Vl) (w : World) (hl : l.length = len) (hlen : len ≤ 4000) (hs : ∀ v ∈ l, v.2.size ≤ 100) (hc : CellsAt w w.heap.size ao (len * 2) (vlc l)) :
    Calls Try.prog 48 #[.int .i64 4, .slice ao len cap] w fun e w' => ∃ v, e = .returned v ∧ Fresh w w' 5 v (u8v (encs 4 l)) := by
  have Hl := Lib.hid hl; clear hl
  have Hs := Lib.hid hs; clear hs
  go_enter Try.func48, Try.ntmps48
  go_wp2
  go_loopw [5, 6, 7] (fun v tr i wr => ∃ j n : Nat, j ≤ len ∧ tr = .slice none 0 0 ∧ i = .int .i64 j ∧ Hid (n = (encs 4 (l.take j)).length) ∧ n ≤ 104 * j ∧ wr.ownsRow w.heap.size 5 1 v n (u8v (encs 4 (l.take j))) ∧ Below w.heap.size w wr) (fun _ _ i _ => len - (intOf i).toNat)
  case atStart => exact ⟨0, 0, Nat.zero_le _, rfl, rfl, Lib.hid rfl, Nat.zero_le _, World.ownsRow_nil _ _ _ _, Below.refl _ _⟩
  case round =>
    obtain ⟨j, n, hj, rfl, rfl, hn, hn2, hown, hwr⟩ := hrel
    by_cases hlt : j < len
    · obtain ⟨b, off, rfl, hb, c0, c1⟩ := hc.val hlt
      have c0' := (hwr.cell (by exact hb)).trans c0
      have c1' := (hwr.cell (by exact hb)).trans c1
      clear c0 c1 hc
      obtain ⟨v, hv⟩ : ∃ v, v = l.getD j vl0 := ⟨_, rfl⟩
      rw [vN, ← hv] at c0'
      rw [vS, ← hv] at c1'
      have hv100 : v.2.size ≤ 100 := by
        rw [hv, List.getD_eq_getElem?_getD, List.getElem?_eq_getElem (by rw [Hl.out]; exact hlt)]
        exact Hs.out _ (List.getElem_mem _)
      have htk : Hid (encs 4 (l.take (j + 1)) = (encs 4 (l.take j) ++ lowB v.2.size 4) ++ strB v.2) := Lib.hid (by
        rw [take_vl l j (by rw [Hl.out]; exact hlt), encs_snoc, ← hv, List.append_assoc]; rfl)
      clear hv
      obtain ⟨aoB, capB, rfl, hlB, hcB, hnB⟩ := own_u8c hown
      have hHl := Lib.hid hlB; clear hlB
      have e1 : (j : Int) < (len : Int) := by omega
      have e2 : (0 : Int) ≤ (j : Int) := by omega
      have hw : IntKind.u64.wrap (v.2.size : Int) = (v.2.size : Nat) := IntWalk.u64_in _ (by omega)
      go_wp2
      refine wp_region_linH [(0, 0), (1, 0), (2, 0), (3, 0), (4, 0), (5, 0), (6, 0), (7, 0), (9, 0), (10, 0), (11, 0), (12, 0), (13, 0), (8, 1), (14, 2), (15, 0)] [14] (by kernel_rfl) (by kernel_rfl) (fun d _ _ _ _ h => by cases d <;> exact h) ?_
      have hf1 : ∀ w', Grows wr.drew w' → w'.cell? ⟨b, off + j * 2 + 1, none⟩ = some (.string v.2) := fun w' hg => (Grows.toDrew hg).cell c1'
      repeat (first
        | (refine wpLinH_skip rfl rfl (fun K hK => ?_); go_simp; refine hK _ ?_; clear hK K)
        | (refine wpLinH_take (v := ?_) rfl rfl (fun w' hw' => ?_) (fun K hK => ?_); rotate_left; (go_simp; rfl); (go_simp; refine hK _ ?_; clear hK K)))
      refine wpLinH_do rfl (fun K hK => ?_); go_simp
      refine (rput_n aoB n capB (encs 4 (l.take j)) 4 4 v.2.size _ hHl.out hcB.drew (fun e => (hnB e).1) (by omega) (by omega) (.inr ⟨rfl, by decide⟩)).mono ?_
      rintro e x1 ⟨ao1, cap1, rfl, hc1, hn1, hr1, hx1⟩
      refine hK _ _ hx1 ?_; clear hK K
      obtain ⟨L, hL⟩ : ∃ L, L = (encs 4 (l.take j) ++ lowB v.2.size 4).length := ⟨_, rfl⟩
      have hL2 : L = n + 4 := by rw [hL, List.length_append, lowB_length, hHl.out]
      have ho1 := own_base (hr1.own (by omega)) (base' := w.heap.size) hwr.drew.size
      rw [← hL] at ho1 ⊢
      have hwr1 : Below w.heap.size w x1 := hwr.trans ((Grows.toDrew hx1).mono hwr.size)
      have Htk : Hid (L + v.2.size = (encs 4 (l.take (j + 1))).length) := Lib.hid (by rw [htk.out, List.length_append, ← hL, strB_length])
      clear hL hc1 hn1 hr1 hx1
      refine wpLinH_hard rfl (fun K hK => ?_)
      refine step_append_str rfl (.tmp 23) (.tmp 28) rfl rfl ho1 rfl (by omega) hwr1.size ?_
      intro v' y hown' hgrow
      rw [← htk.out] at hown'
      have hy := hwr1.grown hgrow hwr1.size (fun j hj => (ho1.lt j hj).1)
      go_simp; refine hK _ _ ?_; clear hK K
      repeat (first
        | (refine wpLinH_skip rfl rfl (fun K hK => ?_); go_simp; refine hK _ ?_; clear hK K)
        | (refine wpLinH_take (v := ?_) rfl rfl (fun w' hw' => ?_) (fun K hK => ?_); rotate_left; (go_simp; rfl); (go_simp; refine hK _ ?_; clear hK K)))
      refine wpLinH_nil ?_
      go_wp2
      go_roundw
      case rel => exact ⟨j + 1, L + v.2.size, by omega, rfl, by go_num, Htk, by omega, hown', hy⟩
      case measure => simp [intOf]; omega
    · obtain rfl : j = len := by omega
      have hall : l.take j = l := List.take_of_length_le (by rw [Hl.out]; exact Nat.le_refl _)
      rw [hall] at hown
      have Hn : Hid (n = (encs 4 l).length) := Lib.hid (by rw [hn.out, hall])
      clear hn hall hc
      go_wp2
      go_ret
      exact ⟨_, rfl, ⟨by rw [u8v_length, ← Hn.out]; exact hown, hwr⟩⟩

set_option maxHeartbeats 4000000 in
set_option maxRecDepth 100000 in
theorem rplainE_1 (ao : Option Addr) (len cap : Nat) (l : List Vl) (w : World) (hl : l.length = len) (hlen : len ≤ 4000) (hc : CellsAt w w.heap.size ao (len * 2) (vlc l)) :
    Calls Try.prog 48 #[.int .i64 1, .slice ao len cap] w fun e w' => ∃ v, e = .returned v ∧ Fresh w w' 5 v (u8v (packed (l.map fun v => u64of v.1) 1)) := by
  have Hl := Lib.hid hl; clear hl
  go_enter Try.func48, Try.ntmps48
  go_wp2
  go_loopw [6, 7] (fun v i wr => ∃ j : Nat, j ≤ len ∧ i = .int .i64 j ∧ wr.ownsRow w.heap.size 54 1 v j (u64v ((l.take j).map fun v => u64of v.1)) ∧ Below w.heap.size w wr) (fun _ i _ => len - (intOf i).toNat)
  case atStart => exact ⟨0, Nat.zero_le _, rfl, World.ownsRow_nil _ _ _ _, Below.refl _ _⟩
  case round =>
    obtain ⟨j, hj, rfl, hown, hwr⟩ := hrel
    by_cases hlt : j < len
    · obtain ⟨b, off, rfl, hb, c0, c1⟩ := hc.val hlt
      have c0' := (hwr.cell (by exact hb)).trans c0
      clear c0 c1 hc
      obtain ⟨v, hv⟩ : ∃ v, v = l.getD j vl0 := ⟨_, rfl⟩
      rw [vN, ← hv] at c0'
      have htk : Hid (u64v ((l.take j).map fun v => u64of v.1) ++ [.int .u64 (u64of v.1 : Nat)] = u64v ((l.take (j + 1)).map fun v => u64of v.1)) := Lib.hid (by
        rw [take_vl l j (by rw [Hl.out]; exact hlt), ← hv, List.map_append, ← u64v_append]; rfl)
      clear hv
      have e1 : (j : Int) < (len : Int) := by omega
      have e2 : (0 : Int) ≤ (j : Int) := by omega
      have hw : IntKind.u64.wrap v.1 = (u64of v.1 : Nat) := by rw [IntKind.wrap_u64]; exact u64of_eq _
      have hu := u64of_lt v.1
      go_wp2_with (at_builtin; refine wpList_append_all1 sl_u64 rfl (.tmp 32) (.tmp 39) rfl rfl (hown.alloc _) rfl (cells_one wr 54 (.int .u64 (u64of v.1 : Nat))) (fun e => by cases e) (fun _ _ => rfl) (by unfold maxLen; omega) (by omega) (by have := hwr.size; simp; omega) ?_)
      intro v' y hown' hgrow
      have hy := (balloc hwr _).grown hgrow (balloc hwr _).size (fun j hj => (hown.lt j hj).1)
      have hown' : y.ownsRow w.heap.size 54 1 v' (j + 1) (u64v ((l.take (j + 1)).map fun v => u64of v.1)) := by rw [← htk.out, List.map_take]; exact hown'
      clear hown hgrow hwr
      go_wp2
      go_roundw
      case rel => exact ⟨j + 1, by omega, by go_num, hown', hy⟩
      case measure => simp [intOf]; omega
    · obtain rfl : j = len := by omega
      have hall : l.take j = l := List.take_of_length_le (by rw [Hl.out]; exact Nat.le_refl _)
      rw [hall] at hown
      clear hall hc
      obtain ⟨aoG, capG, rfl, hcG, -⟩ := own_u64 hown
      have Hu : Hid (∀ x ∈ l.map fun v => u64of v.1, x < 18446744073709551616) := Lib.hid (by
        intro x hx
        obtain ⟨v, -, rfl⟩ := List.mem_map.1 hx
        exact u64of_lt _)
      clear hown
      go_wp2_with fail
      refine (rpack_any aoG j capG 1 _ _ (by rw [List.length_map, Hl.out]) (by omega) Hu.out hcG).mono ?_
      rw [show packedAny (l.map fun v => u64of v.1) 1 = packed (l.map fun v => u64of v.1) 1 from if_pos (by decide)]
      rintro e x1 ⟨v1, rfl, hf1⟩
      have hf := Lib.hid hf1; clear hf1
      have hwr := Lib.hid hwr
      go_wp2
      go_ret
      exact ⟨_, rfl, own_base hf.out.1 hwr.out.size, bmore hwr.out hf.out.2⟩

theorem rplainE_any (k : Nat) (ao : Option Addr) (len cap : Nat) (l : List Vl) (w : World) (hk : 1 ≤ k) (hk4 : k ≤ 4) (hl : l.length = len) (hlen : len ≤ 4000) (hs : ∀ v ∈ l, v.2.size ≤ 100) (hc : CellsAt w w.heap.size ao (len * 2) (vlc l)) :
    Calls Try.prog 48 #[.int .i64 k, .slice ao len cap] w fun e w' => ∃ v, e = .returned v ∧ Fresh w w' 5 v (u8v (plainB k l)) := by
  have hk' : k = 1 ∨ k = 2 ∨ k = 3 ∨ k = 4 := by omega
  rcases hk' with rfl | rfl | rfl | rfl
  · exact rplainE_1 ao len cap l w hl hlen hc
  · exact rplainE_2 ao len cap l w hl hlen hs hc
  · exact rplainE_3 ao len cap l w hl hlen hs hc
  · exact rplainE_4 ao len cap l w hl hlen hs hc
end Go.Proofs.Ytlnlcmdbhkpnhaa
