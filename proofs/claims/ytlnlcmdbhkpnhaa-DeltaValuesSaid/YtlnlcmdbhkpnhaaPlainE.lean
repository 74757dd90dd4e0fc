/- Chapter 11: the walk over plain.Encode. -/
import Derived.Test.YtlnlcmdbhkpnhaaPlainP
import Derived.Test.YtlnlcmdbhkpnhaaBunB
import Derived.Test.YtlnlcmdbhkpnhaaL11
namespace Go.Proofs.Ytlnlcmdbhkpnhaa
open Go.RowKit
set_option linter.unusedVariables false

set_option maxRecDepth 100000 in
set_option maxHeartbeats 400000 in
theorem sign_1 (w : World) : Calls Try.prog 67 #[.int .i64 1] w fun e w' => e = .returned (.int .i32 98) ∧ w = w' := by
  have i0 : ∀ w, (Instr.index 105 (.agg #[.int .i32 98, .int .i32 105, .int .i32 108, .int .i32 116]) (.int .i64 0)).run Try.prog w = .ok (.int .i32 98) w := fun _ => by kernel_rfl
  go_enter Try.func67, Try.ntmps67
  go_wp2
  go_ret
  exact ⟨rfl, rfl⟩
set_option maxRecDepth 100000 in
set_option maxHeartbeats 400000 in
theorem sign_2 (w : World) : Calls Try.prog 67 #[.int .i64 2] w fun e w' => e = .returned (.int .i32 105) ∧ w = w' := by
  have i0 : ∀ w, (Instr.index 105 (.agg #[.int .i32 98, .int .i32 105, .int .i32 108, .int .i32 116]) (.int .i64 1)).run Try.prog w = .ok (.int .i32 105) w := fun _ => by kernel_rfl
  go_enter Try.func67, Try.ntmps67
  go_wp2
  go_ret
  exact ⟨rfl, rfl⟩
set_option maxRecDepth 100000 in
set_option maxHeartbeats 400000 in
theorem sign_3 (w : World) : Calls Try.prog 67 #[.int .i64 3] w fun e w' => e = .returned (.int .i32 108) ∧ w = w' := by
  have i0 : ∀ w, (Instr.index 105 (.agg #[.int .i32 98, .int .i32 105, .int .i32 108, .int .i32 116]) (.int .i64 2)).run Try.prog w = .ok (.int .i32 108) w := fun _ => by kernel_rfl
  go_enter Try.func67, Try.ntmps67
  go_wp2
  go_ret
  exact ⟨rfl, rfl⟩
set_option maxRecDepth 100000 in
set_option maxHeartbeats 400000 in
theorem sign_4 (w : World) : Calls Try.prog 67 #[.int .i64 4] w fun e w' => e = .returned (.int .i32 116) ∧ w = w' := by
  have i0 : ∀ w, (Instr.index 105 (.agg #[.int .i32 98, .int .i32 105, .int .i32 108, .int .i32 116]) (.int .i64 3)).run Try.prog w = .ok (.int .i32 116) w := fun _ => by kernel_rfl
  go_enter Try.func67, Try.ntmps67
  go_wp2
  go_ret
  exact ⟨rfl, rfl⟩
set_option maxRecDepth 100000 in
set_option maxHeartbeats 400000 in
theorem wide_2 (w : World) : Calls Try.prog 59 #[.int .i64 2] w fun e w' => e = .returned (.int .i64 4) ∧ w = w' := by
  go_enter Try.func59, Try.ntmps59
  go_wp2_with (go_at_call 67; refine (sign_2 _).mono ?_; rintro e x1 ⟨rfl, rfl⟩)
  go_ret
  exact ⟨rfl, rfl⟩
set_option maxRecDepth 100000 in
set_option maxHeartbeats 400000 in
theorem wide_3 (w : World) : Calls Try.prog 59 #[.int .i64 3] w fun e w' => e = .returned (.int .i64 8) ∧ w = w' := by
  go_enter Try.func59, Try.ntmps59
  go_wp2_with (go_at_call 67; refine (sign_3 _).mono ?_; rintro e x1 ⟨rfl, rfl⟩)
  go_ret
  exact ⟨rfl, rfl⟩
set_option maxRecDepth 100000 in
set_option maxHeartbeats 400000 in
theorem wide_4 (w : World) : Calls Try.prog 59 #[.int .i64 4] w fun e w' => e = .returned (.int .i64 4) ∧ w = w' := by
  go_enter Try.func59, Try.ntmps59
  go_wp2_with (go_at_call 67; refine (sign_4 _).mono ?_; rintro e x1 ⟨rfl, rfl⟩)
  go_ret
  exact ⟨rfl, rfl⟩
set_option maxHeartbeats 4000000 in
set_option maxRecDepth 100000 in
theorem plainE_4 (ao : Option Addr) (len cap : Nat) (l : List Vl) (w : World) (hl : l.length = len) (hlen : len ≤ 4000) (hs : ∀ v ∈ l, v.2.size ≤ 100) (hc : CellsAt w w.heap.size ao (len * 2) (vlc l)) :
    Calls Try.prog 33 #[.int .i64 4, .slice ao len cap] w fun e w' => ∃ v, e = .returned v ∧ Fresh w w' 5 v (u8v (encs 4 l)) := by
  have Hl := Lib.hid hl; clear hl
  have Hs := Lib.hid hs; clear hs
  go_enter Try.func33, Try.ntmps33
  go_wp2
  go_loopw [5, 6, 11] (fun v tr i wr => ∃ j n : Nat, j ≤ len ∧ tr = .slice none 0 0 ∧ i = .int .i64 j ∧ Hid (n = (encs 4 (l.take j)).length) ∧ n ≤ 104 * j ∧ wr.ownsRow w.heap.size 5 1 v n (u8v (encs 4 (l.take j))) ∧ Below w.heap.size w wr) (fun _ _ i _ => len - (intOf i).toNat)
  case atStart => exact ⟨0, 0, Nat.zero_le _, rfl, rfl, Lib.hid rfl, Nat.zero_le _, World.ownsRow_nil _ _ _ _, Below.refl _ _⟩
  case round =>
    obtain ⟨j, n, hj, rfl, rfl, hn, hn2, hown, hwr⟩ := hrel
    by_cases hlt : j < len
    · obtain ⟨b, off, rfl, hb, c0, c1⟩ := hc.val hlt
      have c0' := (hwr.cell (by exact hb)).trans c0
      have c1' := (hwr.cell (by exact hb)).trans c1
      clear c0 c1 hc
      obtain ⟨v, hv⟩ : ∃ v, v = l.getD j vl0 := ⟨_, rfl⟩
      rw [vN, ← hv] at c0'
      rw [vS, ← hv] at c1'
      have hv100 : v.2.size ≤ 100 := by
        rw [hv, List.getD_eq_getElem?_getD, List.getElem?_eq_getElem (by rw [Hl.out]; exact hlt)]
        exact Hs.out _ (List.getElem_mem _)
      have htk : Hid (encs 4 (l.take (j + 1)) = (encs 4 (l.take j) ++ lowB v.2.size 4) ++ strB v.2) := Lib.hid (by
        rw [take_vl l j (by rw [Hl.out]; exact hlt), encs_snoc, ← hv, List.append_assoc]; rfl)
      clear hv
      obtain ⟨aoB, capB, rfl, hlB, hcB, hnB⟩ := own_u8c hown
      have hHl := Lib.hid hlB; clear hlB
      go_wp2
      have hw : IntKind.u64.wrap (v.2.size : Int) = (v.2.size : Nat) := IntWalk.u64_in _ (by omega)
      refine wp_region_linH [(0, 0), (1, 0), (2, 0), (3, 0), (4, 0), (6, 0), (7, 0), (5, 1), (8, 2), (9, 0)] [8] (by kernel_rfl) (by kernel_rfl) (fun d _ _ _ _ h => by cases d <;> exact h) ?_
      have hf1 : ∀ w', Grows (wr.alloc (.cells #[.int .i64 v.1, .string v.2] 32)).drew w' → w'.cell? ⟨wr.heap.size, 1, none⟩ = some (.string v.2) := fun w' hg => (Grows.toDrew hg).cell (by simp [go_sem])
      repeat (first
        | (refine wpLinH_skip rfl rfl (fun K hK => ?_); go_simp; refine hK _ ?_; clear hK K)
        | (refine wpLinH_take (v := ?_) rfl rfl (fun w' hw' => ?_) (fun K hK => ?_); rotate_left; (go_simp; rfl); (go_simp; refine hK _ ?_; clear hK K)))
      have hcB' := hcB.at (balloc (Below.refl wr.heap.size wr) (.cells #[.int .i64 v.1, .string v.2] 32)).drew
      refine wpLinH_do rfl (fun K hK => ?_); go_simp
      refine (put_n aoB n capB (encs 4 (l.take j)) 4 4 v.2.size _ hHl.out hcB' (fun e => (hnB e).1) (by omega) (by omega) (.inr ⟨rfl, by decide⟩)).mono ?_
      rintro e x1 ⟨ao1, cap1, rfl, hc1, hn1, hr1, hx1⟩
      refine hK _ _ hx1 ?_; clear hK K
      obtain ⟨L, hL⟩ : ∃ L, L = (encs 4 (l.take j) ++ lowB v.2.size 4).length := ⟨_, rfl⟩
      have hL2 : L = n + 4 := by rw [hL, List.length_append, lowB_length, hHl.out]
      have ho1 := own_base (hr1.own (by omega)) (base' := w.heap.size) (balloc hwr _).drew.size
      rw [← hL] at ho1 ⊢
      have hwr1 : Below w.heap.size w x1 := (balloc hwr _).trans ((Grows.toDrew hx1).mono (balloc hwr _).size)
      have Htk : Hid (L + v.2.size = (encs 4 (l.take (j + 1))).length) := Lib.hid (by rw [htk.out, List.length_append, ← hL, strB_length])
      clear hL hc1 hn1 hr1 hx1
      refine wpLinH_hard rfl (fun K hK => ?_)
      refine step_append_str rfl (.tmp 38) (.tmp 40) rfl rfl ho1 rfl (by omega) hwr1.size ?_
      intro v' y hown' hgrow
      rw [← htk.out] at hown'
      have hy := hwr1.grown hgrow hwr1.size (fun j hj => (ho1.lt j hj).1)
      go_simp; refine hK _ _ ?_; clear hK K
      repeat (first
        | (refine wpLinH_skip rfl rfl (fun K hK => ?_); go_simp; refine hK _ ?_; clear hK K)
        | (refine wpLinH_take (v := ?_) rfl rfl (fun w' hw' => ?_) (fun K hK => ?_); rotate_left; (go_simp; rfl); (go_simp; refine hK _ ?_; clear hK K)))
      refine wpLinH_nil ?_
      go_wp2
      go_roundw
      case rel => exact ⟨j + 1, L + v.2.size, by omega, rfl, by go_num, Htk, by omega, hown', hy⟩
      case measure => simp [intOf]; omega
    · obtain rfl : j = len := by omega
      have hall : l.take j = l := List.take_of_length_le (by rw [Hl.out]; exact Nat.le_refl _)
      rw [hall] at hown
      have Hn : Hid (n = (encs 4 l).length) := Lib.hid (by rw [hn.out, hall])
      clear hn hall hc
      obtain ⟨aoB, capB, rfl, hlB, hcB, hnB⟩ := own_u8c hown
      have HlB := Lib.hid hlB; clear hlB
      go_wp2_with fail
      refine (pack_any none 0 0 1 [] _ rfl (by decide) (by decide) CellsAt.zero).mono ?_
      rw [show packedAny [] 1 = [] by decide]
      rintro e x1 ⟨v1, rfl, hf1⟩
      obtain ⟨ao1, n1, cap1, rfl, Hn1, hc1, hz1, ho1⟩ := hf1.u8
      have hnz : ao1 = none → n1 = 0 ∧ cap1 = 0 := fun e => by
        obtain ⟨a, c, h1, -, -, h2⟩ := own_u8c ho1
        simp only [Value.slice.injEq] at h1
        obtain ⟨rfl, -, rfl⟩ := h1
        exact h2 e
      have hx1 := bmore hwr hf1.2
      have Hnz := Lib.hid hnz; clear hnz
      have hcB1 := hcB.at hf1.2
      clear hf1 ho1 hown
      go_wp2_with fail
      refine (concat_any _ 2 _ [[], encs 4 l] _ (by decide) (by simp; have := Hn.out; omega) (partsOk_alloc [(ao1, n1, cap1, []), (aoB, n, capB, encs 4 l)] ?_)).mono ?_
      · intro s hs
        simp only [List.mem_cons, List.not_mem_nil, or_false] at hs
        rcases hs with rfl | rfl
        · exact ⟨Hn1.out.symm, Hnz.out, hc1⟩
        · exact ⟨HlB.out, hnB, hcB1⟩
      rintro e x2 ⟨v2, rfl, hf2⟩
      go_wp2
      go_ret
      refine ⟨_, rfl, ?_, bmore (balloc hx1 _) hf2.2⟩
      have := own_base hf2.1 (balloc hx1 _).size
      simpa using this

set_option maxHeartbeats 4000000 in
set_option maxRecDepth 100000 in
theorem plainE_2 (ao : Option Addr) (len cap : Nat) (l : List Vl) (w : World) (hl : l.length = len) (hlen : len ≤ 4000) (hs : ∀ v ∈ l, v.2.size ≤ 100) (hc : CellsAt w w.heap.size ao (len * 2) (vlc l)) :
    Calls Try.prog 33 #[.int .i64 2, .slice ao len cap] w fun e w' => ∃ v, e = .returned v ∧ Fresh w w' 5 v (u8v (encs 2 l)) := by
  have Hl := Lib.hid hl; clear hl
  have Hs := Lib.hid hs; clear hs
  go_enter Try.func33, Try.ntmps33
  go_wp2
  go_loopw [5, 6, 11] (fun v tr i wr => ∃ j n : Nat, j ≤ len ∧ tr = .slice none 0 0 ∧ i = .int .i64 j ∧ Hid (n = (encs 2 (l.take j)).length) ∧ n ≤ 104 * j ∧ wr.ownsRow w.heap.size 5 1 v n (u8v (encs 2 (l.take j))) ∧ Below w.heap.size w wr) (fun _ _ i _ => len - (intOf i).toNat)
  case atStart => exact ⟨0, 0, Nat.zero_le _, rfl, rfl, Lib.hid rfl, Nat.zero_le _, World.ownsRow_nil _ _ _ _, Below.refl _ _⟩
  case round =>
    obtain ⟨j, n, hj, rfl, rfl, hn, hn2, hown, hwr⟩ := hrel
    by_cases hlt : j < len
    · obtain ⟨b, off, rfl, hb, c0, c1⟩ := hc.val hlt
      have c0' := (hwr.cell (by exact hb)).trans c0
      have c1' := (hwr.cell (by exact hb)).trans c1
      clear c0 c1 hc
      obtain ⟨v, hv⟩ : ∃ v, v = l.getD j vl0 := ⟨_, rfl⟩
      rw [vN, ← hv] at c0'
      rw [vS, ← hv] at c1'
      have htk : Hid (encs 2 (l.take (j + 1)) = encs 2 (l.take j) ++ lowB (u64of v.1) 4) := Lib.hid (by
        rw [take_vl l j (by rw [Hl.out]; exact hlt), encs_snoc, ← hv]; rfl)
      clear hv
      obtain ⟨aoB, capB, rfl, hlB, hcB, hnB⟩ := own_u8c hown
      have hHl := Lib.hid hlB; clear hlB
      go_wp2
      have hw : IntKind.u64.wrap v.1 = (u64of v.1 : Nat) := by rw [IntKind.wrap_u64]; exact u64of_eq _
      have hu := u64of_lt v.1
      refine wp_region_linH [(0, 0), (1, 0), (3, 0), (4, 0), (5, 0), (2, 1), (6, 1), (7, 0)] [] (by kernel_rfl) (by kernel_rfl) (fun d _ _ _ _ h => by cases d <;> exact h) ?_
      have hf1 : ∀ w', Grows (wr.alloc (.cells #[.int .i64 v.1, .string v.2] 32)).drew w' → w'.cell? ⟨wr.heap.size, 0, none⟩ = some (.int .i64 v.1) := fun w' hg => (Grows.toDrew hg).cell (by simp [go_sem])
      repeat (first
        | (refine wpLinH_skip rfl rfl (fun K hK => ?_); go_simp; refine hK _ ?_; clear hK K)
        | (refine wpLinH_take (v := ?_) rfl rfl (fun w' hw' => ?_) (fun K hK => ?_); rotate_left; (go_simp; rfl); (go_simp; refine hK _ ?_; clear hK K)))
      have hcB' := hcB.at (balloc (Below.refl wr.heap.size wr) (.cells #[.int .i64 v.1, .string v.2] 32)).drew
      refine wpLinH_do rfl (fun K hK => ?_); go_simp
      refine (wide_2 _).mono ?_
      rintro e x1 ⟨rfl, rfl⟩
      refine hK _ _ (Grows.refl _) ?_; clear hK K
      refine wpLinH_do rfl (fun K hK => ?_); go_simp
      refine (put_n aoB n capB (encs 2 (l.take j)) 4 4 (u64of v.1) _ hHl.out hcB' (fun e => (hnB e).1) (by omega) hu (.inr ⟨rfl, by decide⟩)).mono ?_
      rintro e x1 ⟨ao1, cap1, rfl, hc1, hn1, hr1, hx1⟩
      refine hK _ _ hx1 ?_; clear hK K
      obtain ⟨L, hL⟩ : ∃ L, L = (encs 2 (l.take j) ++ lowB (u64of v.1) 4).length := ⟨_, rfl⟩
      have hL2 : Hid (L = n + 4) := Lib.hid (by rw [hL, List.length_append, lowB_length, hHl.out])
      have ho1 := own_base (hr1.own (by have := hL2.out; omega)) (base' := w.heap.size) (balloc hwr _).drew.size
      rw [← hL] at ho1 ⊢
      rw [← htk.out] at ho1
      have hwr1 : Below w.heap.size w x1 := (balloc hwr _).trans ((Grows.toDrew hx1).mono (balloc hwr _).size)
      have Htk : Hid (L = (encs 2 (l.take (j + 1))).length) := Lib.hid (by rw [htk.out, ← hL])
      clear hL hc1 hn1 hr1 hx1
      repeat (first
        | (refine wpLinH_skip rfl rfl (fun K hK => ?_); go_simp; refine hK _ ?_; clear hK K)
        | (refine wpLinH_take (v := ?_) rfl rfl (fun w' hw' => ?_) (fun K hK => ?_); rotate_left; (go_simp; rfl); (go_simp; refine hK _ ?_; clear hK K)))
      refine wpLinH_nil ?_
      go_wp2
      go_roundw
      case rel => exact ⟨j + 1, L, by omega, rfl, by go_num, Htk, by have := hL2.out; omega, ho1, hwr1⟩
      case measure => simp [intOf]; omega
    · obtain rfl : j = len := by omega
      have hall : l.take j = l := List.take_of_length_le (by rw [Hl.out]; exact Nat.le_refl _)
      rw [hall] at hown
      have Hn : Hid (n = (encs 2 l).length) := Lib.hid (by rw [hn.out, hall])
      clear hn hall hc
      obtain ⟨aoB, capB, rfl, hlB, hcB, hnB⟩ := own_u8c hown
      have HlB := Lib.hid hlB; clear hlB
      go_wp2_with fail
      refine (pack_any none 0 0 1 [] _ rfl (by decide) (by decide) CellsAt.zero).mono ?_
      rw [show packedAny [] 1 = [] by decide]
      rintro e x1 ⟨v1, rfl, hf1⟩
      obtain ⟨ao1, n1, cap1, rfl, Hn1, hc1, hz1, ho1⟩ := hf1.u8
      have hnz : ao1 = none → n1 = 0 ∧ cap1 = 0 := fun e => by
        obtain ⟨a, c, h1, -, -, h2⟩ := own_u8c ho1
        simp only [Value.slice.injEq] at h1
        obtain ⟨rfl, -, rfl⟩ := h1
        exact h2 e
      have hx1 := bmore hwr hf1.2
      have Hnz := Lib.hid hnz; clear hnz
      have hcB1 := hcB.at hf1.2
      clear hf1 ho1 hown
      go_wp2_with fail
      refine (concat_any _ 2 _ [[], encs 2 l] _ (by decide) (by simp; have := Hn.out; omega) (partsOk_alloc [(ao1, n1, cap1, []), (aoB, n, capB, encs 2 l)] ?_)).mono ?_
      · intro s hs
        simp only [List.mem_cons, List.not_mem_nil, or_false] at hs
        rcases hs with rfl | rfl
        · exact ⟨Hn1.out.symm, Hnz.out, hc1⟩
        · exact ⟨HlB.out, hnB, hcB1⟩
      rintro e x2 ⟨v2, rfl, hf2⟩
      go_wp2
      go_ret
      refine ⟨_, rfl, ?_, bmore (balloc hx1 _) hf2.2⟩
      have := own_base hf2.1 (balloc hx1 _).size
      simpa using this

set_option maxHeartbeats 4000000 in
set_option maxRecDepth 100000 in
theorem plainE_3 (ao : Option Addr) (len cap : Nat) (l : List Vl) (w : World) (hl : l.length = len) (hlen : len ≤ 4000) (hs : ∀ v ∈ l, v.2.size ≤ 100) (hc : CellsAt w w.heap.size ao (len * 2) (vlc l)) :
    Calls Try.prog 33 #[.int .i64 3, .slice ao len cap] w fun e w' => ∃ v, e = .returned v ∧ Fresh w w' 5 v (u8v (encs 3 l)) := by
  have Hl := Lib.hid hl; clear hl
  have Hs := Lib.hid hs; clear hs
  go_enter Try.func33, Try.ntmps33
  go_wp2
  go_loopw [5, 6, 11] (fun v tr i wr => ∃ j n : Nat, j ≤ len ∧ tr = .slice none 0 0 ∧ i = .int .i64 j ∧ Hid (n = (encs 3 (l.take j)).length) ∧ n ≤ 104 * j ∧ wr.ownsRow w.heap.size 5 1 v n (u8v (encs 3 (l.take j))) ∧ Below w.heap.size w wr) (fun _ _ i _ => len - (intOf i).toNat)
  case atStart => exact ⟨0, 0, Nat.zero_le _, rfl, rfl, Lib.hid rfl, Nat.zero_le _, World.ownsRow_nil _ _ _ _, Below.refl _ _⟩
  case round =>
    obtain ⟨j, n, hj, rfl, rfl, hn, hn2, hown, hwr⟩ := hrel
    by_cases hlt : j < len
    · obtain ⟨b, off, rfl, hb, c0, c1⟩ := hc.val hlt
      have c0' := (hwr.cell (by exact hb)).trans c0
      have c1' := (hwr.cell (by exact hb)).trans c1
      clear c0 c1 hc
      obtain ⟨v, hv⟩ : ∃ v, v = l.getD j vl0 := ⟨_, rfl⟩
      rw [vN, ← hv] at c0'
      rw [vS, ← hv] at c1'
      have htk : Hid (encs 3 (l.take (j + 1)) = encs 3 (l.take j) ++ lowB (u64of v.1) 8) := Lib.hid (by
        rw [take_vl l j (by rw [Hl.out]; exact hlt), encs_snoc, ← hv]; rfl)
      clear hv
      obtain ⟨aoB, capB, rfl, hlB, hcB, hnB⟩ := own_u8c hown
      have hHl := Lib.hid hlB; clear hlB
      go_wp2
      have hw : IntKind.u64.wrap v.1 = (u64of v.1 : Nat) := by rw [IntKind.wrap_u64]; exact u64of_eq _
      have hu := u64of_lt v.1
      refine wp_region_linH [(0, 0), (1, 0), (3, 0), (4, 0), (5, 0), (2, 1), (6, 1), (7, 0)] [] (by kernel_rfl) (by kernel_rfl) (fun d _ _ _ _ h => by cases d <;> exact h) ?_
      have hf1 : ∀ w', Grows (wr.alloc (.cells #[.int .i64 v.1, .string v.2] 32)).drew w' → w'.cell? ⟨wr.heap.size, 0, none⟩ = some (.int .i64 v.1) := fun w' hg => (Grows.toDrew hg).cell (by simp [go_sem])
      repeat (first
        | (refine wpLinH_skip rfl rfl (fun K hK => ?_); go_simp; refine hK _ ?_; clear hK K)
        | (refine wpLinH_take (v := ?_) rfl rfl (fun w' hw' => ?_) (fun K hK => ?_); rotate_left; (go_simp; rfl); (go_simp; refine hK _ ?_; clear hK K)))
      have hcB' := hcB.at (balloc (Below.refl wr.heap.size wr) (.cells #[.int .i64 v.1, .string v.2] 32)).drew
      refine wpLinH_do rfl (fun K hK => ?_); go_simp
      refine (wide_3 _).mono ?_
      rintro e x1 ⟨rfl, rfl⟩
      refine hK _ _ (Grows.refl _) ?_; clear hK K
      refine wpLinH_do rfl (fun K hK => ?_); go_simp
      refine (put_n aoB n capB (encs 3 (l.take j)) 8 8 (u64of v.1) _ hHl.out hcB' (fun e => (hnB e).1) (by omega) hu (.inr ⟨rfl, by decide⟩)).mono ?_
      rintro e x1 ⟨ao1, cap1, rfl, hc1, hn1, hr1, hx1⟩
      refine hK _ _ hx1 ?_; clear hK K
      obtain ⟨L, hL⟩ : ∃ L, L = (encs 3 (l.take j) ++ lowB (u64of v.1) 8).length := ⟨_, rfl⟩
      have hL2 : Hid (L = n + 8) := Lib.hid (by rw [hL, List.length_append, lowB_length, hHl.out])
      have ho1 := own_base (hr1.own (by have := hL2.out; omega)) (base' := w.heap.size) (balloc hwr _).drew.size
      rw [← hL] at ho1 ⊢
      rw [← htk.out] at ho1
      have hwr1 : Below w.heap.size w x1 := (balloc hwr _).trans ((Grows.toDrew hx1).mono (balloc hwr _).size)
      have Htk : Hid (L = (encs 3 (l.take (j + 1))).length) := Lib.hid (by rw [htk.out, ← hL])
      clear hL hc1 hn1 hr1 hx1
      repeat (first
        | (refine wpLinH_skip rfl rfl (fun K hK => ?_); go_simp; refine hK _ ?_; clear hK K)
        | (refine wpLinH_take (v := ?_) rfl rfl (fun w' hw' => ?_) (fun K hK => ?_); rotate_left; (go_simp; rfl); (go_simp; refine hK _ ?_; clear hK K)))
      refine wpLinH_nil ?_
      go_wp2
      go_roundw
      case rel => exact ⟨j + 1, L, by omega, rfl, by go_num, Htk, by have := hL2.out; omega, ho1, hwr1⟩
      case measure => simp [intOf]; omega
    · obtain rfl : j = len := by omega
      have hall : l.take j = l := List.take_of_length_le (by rw [Hl.out]; exact Nat.le_refl _)
      rw [hall] at hown
      have Hn : Hid (n = (encs 3 l).length) := Lib.hid (by rw [hn.out, hall])
      clear hn hall hc
      obtain ⟨aoB, capB, rfl, hlB, hcB, hnB⟩ := own_u8c hown
      have HlB := Lib.hid hlB; clear hlB
      go_wp2_with fail
      refine (pack_any none 0 0 1 [] _ rfl (by decide) (by decide) CellsAt.zero).mono ?_
      rw [show packedAny [] 1 = [] by decide]
      rintro e x1 ⟨v1, rfl, hf1⟩
      obtain ⟨ao1, n1, cap1, rfl, Hn1, hc1, hz1, ho1⟩ := hf1.u8
      have hnz : ao1 = none → n1 = 0 ∧ cap1 = 0 := fun e => by
        obtain ⟨a, c, h1, -, -, h2⟩ := own_u8c ho1
        simp only [Value.slice.injEq] at h1
        obtain ⟨rfl, -, rfl⟩ := h1
        exact h2 e
      have hx1 := bmore hwr hf1.2
      have Hnz := Lib.hid hnz; clear hnz
      have hcB1 := hcB.at hf1.2
      clear hf1 ho1 hown
      go_wp2_with fail
      refine (concat_any _ 2 _ [[], encs 3 l] _ (by decide) (by simp; have := Hn.out; omega) (partsOk_alloc [(ao1, n1, cap1, []), (aoB, n, capB, encs 3 l)] ?_)).mono ?_
      · intro s hs
        simp only [List.mem_cons, List.not_mem_nil, or_false] at hs
        rcases hs with rfl | rfl
        · exact ⟨Hn1.out.symm, Hnz.out, hc1⟩
        · exact ⟨HlB.out, hnB, hcB1⟩
      rintro e x2 ⟨v2, rfl, hf2⟩
      go_wp2
      go_ret
      refine ⟨_, rfl, ?_, bmore (balloc hx1 _) hf2.2⟩
      have := own_base hf2.1 (balloc hx1 _).size
      simpa using this

set_option maxHeartbeats 4000000 in
set_option maxRecDepth 100000 in
theorem plainE_1 (ao : Option Addr) (len cap : Nat) (l : List Vl) (w : World) (hl : l.length = len) (hlen : len ≤ 4000) (hc : CellsAt w w.heap.size ao (len * 2) (vlc l)) :
    Calls Try.prog 33 #[.int .i64 1, .slice ao len cap] w fun e w' => ∃ v, e = .returned v ∧ Fresh w w' 5 v (u8v (packed (l.map fun v => u64of v.1) 1)) := by
  have Hl := Lib.hid hl; clear hl
  go_enter Try.func33, Try.ntmps33
  go_wp2
  go_loopw [5, 6, 11] (fun bb v i wr => ∃ j : Nat, j ≤ len ∧ bb = .slice none 0 0 ∧ i = .int .i64 j ∧ wr.ownsRow w.heap.size 54 1 v j (u64v ((l.take j).map fun v => u64of v.1)) ∧ Below w.heap.size w wr) (fun _ _ i _ => len - (intOf i).toNat)
  case atStart => exact ⟨0, Nat.zero_le _, rfl, rfl, World.ownsRow_nil _ _ _ _, Below.refl _ _⟩
  case round =>
    obtain ⟨j, hj, rfl, rfl, hown, hwr⟩ := hrel
    by_cases hlt : j < len
    · obtain ⟨b, off, rfl, hb, c0, c1⟩ := hc.val hlt
      have c0' := (hwr.cell (by exact hb)).trans c0
      have c1' := (hwr.cell (by exact hb)).trans c1
      clear c0 c1 hc
      obtain ⟨v, hv⟩ : ∃ v, v = l.getD j vl0 := ⟨_, rfl⟩
      rw [vN, ← hv] at c0'
      rw [vS, ← hv] at c1'
      have hst : u64v ((l.take j).map fun v => u64of v.1) ++ [Value.int .u64 (u64of v.1 : Nat)] = u64v ((l.take (j + 1)).map fun v => u64of v.1) := by
        rw [take_vl l j (by rw [Hl.out]; exact hlt), ← hv, List.map_append, ← u64v_append]; rfl
      have Hst := Lib.hid hst; clear hst hv
      have hw : IntKind.u64.wrap v.1 = (u64of v.1 : Nat) := by rw [IntKind.wrap_u64]; exact u64of_eq _
      have hcu := cells_one (wr.alloc (.cells #[.int .i64 v.1, .string v.2] 32)) 54 (.int .u64 (u64of v.1 : Nat))
      rw [show (wr.alloc (.cells #[.int .i64 v.1, .string v.2] 32)).heap.size = wr.heap.size + 1 by simp] at hcu
      go_wp2_with (at_builtin; refine wpList_append_all1 sl_u64 rfl (.tmp 25) (.tmp 29) rfl rfl ((hown.alloc _).alloc _) rfl hcu (fun e => by cases e) (fun _ _ => rfl) ?c1 ?c2 ?c3 ?_)
      case c1 => unfold maxLen; omega
      case c2 => omega
      case c3 => exact (balloc (balloc hwr _) _).size
      intro v' y hown' hgrow
      have hown'' : y.ownsRow w.heap.size 54 1 v' (j + 1) (u64v ((l.take (j + 1)).map fun v => u64of v.1)) := by rw [← Hst.out, List.map_take]; exact hown'
      have hy := (balloc (balloc hwr _) _).grown hgrow (balloc (balloc hwr _) _).size (fun j hj => (hown.lt j hj).1)
      clear hown'
      go_wp2
      go_roundw
      case rel => exact ⟨j + 1, by omega, rfl, by go_num, hown'', hy⟩
      case measure => simp [intOf]; omega
    · obtain rfl : j = len := by omega
      have hall : l.take j = l := List.take_of_length_le (by rw [Hl.out]; exact Nat.le_refl _)
      rw [hall] at hown
      clear hall hc
      obtain ⟨aoB, capB, rfl, hcB, -⟩ := own_u64 hown
      have hlm : Hid ((l.map fun v => u64of v.1).length = j) := Lib.hid (by rw [List.length_map]; exact Hl.out)
      have hps : (packed (l.map fun v => u64of v.1) 1).length ≤ 4000 := by
        unfold packed packTo packSize
        rw [List.length_map, List.length_range, hlm.out]; omega
      obtain ⟨PB, hPB⟩ : ∃ PB, PB = packed (l.map fun v => u64of v.1) 1 := ⟨_, rfl⟩
      have hpl : (packedAny (l.map fun v => u64of v.1) 1) = PB := hPB.symm
      rw [← hPB] at hps
      have HPB := Lib.hid hPB; clear hPB
      have Hps := Lib.hid hps; clear hps
      go_wp2_with fail
      refine (pack_any aoB j capB 1 (l.map fun v => u64of v.1) _ hlm.out (by omega) (fun x hx => by (obtain ⟨v, -, rfl⟩ := List.mem_map.1 hx); exact u64of_lt _) hcB).mono ?_
      rw [hpl]
      rintro e x1 ⟨v1, rfl, hf1⟩
      obtain ⟨ao1, n1, cap1, rfl, Hn1, hc1, hz1, ho1⟩ := hf1.u8
      have hnz : ao1 = none → n1 = 0 ∧ cap1 = 0 := fun e => by
        obtain ⟨a, c, h1, -, -, h2⟩ := own_u8c ho1
        simp only [Value.slice.injEq] at h1
        obtain ⟨rfl, -, rfl⟩ := h1
        exact h2 e
      have hx1 := bmore hwr hf1.2
      have Hnz := Lib.hid hnz; clear hnz hpl
      clear hf1 ho1 hown
      go_wp2_with fail
      refine (concat_any _ 2 _ [PB, []] _ (by decide) (by simp; have := Hps.out; omega) (partsOk_alloc [(ao1, n1, cap1, PB), (none, 0, 0, [])] ?_)).mono ?_
      · intro s hs
        simp only [List.mem_cons, List.not_mem_nil, or_false] at hs
        rcases hs with rfl | rfl
        · exact ⟨Hn1.out.symm, Hnz.out, hc1⟩
        · exact ⟨rfl, fun _ => ⟨rfl, rfl⟩, CellsAt.zero⟩
      rintro e x2 ⟨v2, rfl, hf2⟩
      go_wp2
      go_ret
      refine ⟨_, rfl, ?_, bmore (balloc hx1 _) hf2.2⟩
      rw [← HPB.out]
      have := own_base hf2.1 (balloc hx1 _).size
      simpa using this

/-- plain.Encode of any kind. -/
theorem plainE_any (k : Nat) (ao : Option Addr) (len cap : Nat) (l : List Vl) (w : World) (hk : 1 ≤ k) (hk4 : k ≤ 4) (hl : l.length = len) (hlen : len ≤ 4000) (hs : ∀ v ∈ l, v.2.size ≤ 100) (hc : CellsAt w w.heap.size ao (len * 2) (vlc l)) :
    Calls Try.prog 33 #[.int .i64 k, .slice ao len cap] w fun e w' => ∃ v, e = .returned v ∧ Fresh w w' 5 v (u8v (plainB k l)) := by
  have hk' : k = 1 ∨ k = 2 ∨ k = 3 ∨ k = 4 := by omega
  rcases hk' with rfl | rfl | rfl | rfl
  · exact plainE_1 ao len cap l w hl hlen hc
  · exact plainE_2 ao len cap l w hl hlen hs hc
  · exact plainE_3 ao len cap l w hl hlen hs hc
  · exact plainE_4 ao len cap l w hl hlen hs hc
end Go.Proofs.Ytlnlcmdbhkpnhaa
