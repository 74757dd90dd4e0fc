/- Chapter 11: the law PlainSizes. -/
import Derived.Test.YtailcciimbjpgaaPlK
import Derived.Test.YtailcciimbjpgaaLin
namespace Go.Proofs.Ytailcciimbjpgaa
open Go.RowKit
set_option linter.unusedVariables false

set_option maxHeartbeats 4000000 in
set_option maxRecDepth 100000 in
theorem plainSizes_1 (a0 : Int) (a1 : Option Addr) (len1 cap1 : Nat) (z1 : List Vl) (w : World) (w0 : (Lit.int .i64 a0).wf = true) (w1 : IsVals w a1 len1 cap1 z1) (hq : a0 % 4 = 0) :
    Calls Try.prog 3 #[.int .i64 a0, .slice a1 len1 cap1] w fun e w' => e = .returned (.bool true) ∧ Below w.heap.size w w' := by
  obtain ⟨ha1, ha2⟩ := bounds_i64 w0
  have Hq := Lib.hid hq; clear hq
  have hs100 := allV_sizes 1 z1
  have hl60 := allV_length 1 z1
  have he : Hid (∀ v ∈ allV 1 z1, v.2.size = 0) := Lib.hid (allV_empty 1 z1 (by decide))
  have hA := fun (w' : World) (h : IsVals w' a1 len1 cap1 z1) => all_any 1 a1 len1 cap1 z1 w' (by decide) (by decide) h
  obtain ⟨r, hr⟩ : ∃ r, r = allV 1 z1 := ⟨_, rfl⟩
  rw [← hr] at hs100 hl60 hA he
  have Hs := Lib.hid hs100; clear hs100 hr
  go_enter Try.func3, Try.ntmps3
  go_wp2_with (go_at_call 10; refine (known_any _).mono ?_; rintro e x1 ⟨rfl, hx1⟩)
  refine (within_any _ _ _ (by omega) (by omega) ha1 ha2).mono ?_; rw [Hq.out]; rintro e x2 ⟨rfl, rfl⟩
  go_wp2_with fail
  refine (hA _ (w1.below hx1)).mono ?_
  rintro e x2 ⟨v, rfl, hf⟩
  have hx2 := bmore hx1 hf.2
  obtain ⟨aoR, nR, capR, rfl, HlR, hncR, hcR, hnR⟩ := hf.open_
  have hn60 : nR ≤ 60 := by rw [← HlR.out]; omega
  clear hf hA hl60 w1
  go_wp2
  go_loopw [7, 8] (fun s i wr => ∃ j t : Nat, j ≤ nR ∧ i = .int .i64 j ∧ s = .int .i64 t ∧ Hid (t = sumSz 0 (r.take j)) ∧ t ≤ 108 * j ∧ Below w.heap.size w wr ∧ Below x2.heap.size x2 wr) (fun _ i _ => nR - (intOf i).toNat)
  case atStart => exact ⟨0, 0, Nat.zero_le _, rfl, rfl, Lib.hid rfl, Nat.zero_le _, hx2, Below.refl _ _⟩
  case round =>
    obtain ⟨j, t, hj, rfl, rfl, ht, ht2, hwr, hwx⟩ := hrel
    by_cases hlt : j < nR
    · obtain ⟨b, off, rfl, hb, c0, c1⟩ := hcR.val hlt
      have c1' := (hwx.cell (by exact hb)).trans c1
      clear c0 c1 hcR
      obtain ⟨v, hv⟩ : ∃ v, v = r.getD j vl0 := ⟨_, rfl⟩
      rw [vS, ← hv] at c1'
      have hv100 : v.2.size ≤ 100 := by
        rw [hv, List.getD_eq_getElem?_getD, List.getElem?_eq_getElem (by rw [HlR.out]; exact hlt)]
        exact Hs.out _ (List.getElem_mem _)
      have hsn : Hid (t + 0 + v.2.size = sumSz 0 (r.take (j + 1))) := Lib.hid (by
        rw [take_vl r j (by rw [HlR.out]; exact hlt), sumSz_snoc, ← hv, ← ht.out]; omega)
      clear hv
      have e1 : IntKind.i64.wrap (t : Int) = (t : Int) := IntWalk.i64_in _ (by omega)
      have e2 : IntKind.i64.wrap ((t : Int) + 0 + (v.2.size : Int)) = ((t + 0 + v.2.size : Nat) : Int) := (IntWalk.i64_in _ (by omega)).trans (by omega)
      have e3 : IntKind.i64.wrap ((t : Int) + (v.2.size : Int)) = ((t + v.2.size : Nat) : Int) := (IntWalk.i64_in _ (by omega)).trans (by omega)
      have c1'' : ∀ w', Grows wr w' → w'.cell? ⟨b, off + j * 2 + 1, none⟩ = some (.string v.2) := fun w' hg => hg.cell c1'
      go_wp2
      refine wp_region_lin [(0, true), (2, true), (6, true), (7, true), (8, true), (9, true), (10, true), (11, true), (1, false), (3, true), (4, true), (5, true), (12, true), (13, true)] (by kernel_rfl) (by kernel_rfl) (fun d _ _ _ _ h => by cases d <;> exact h) ?_
      have c1d : ∀ w', Grows wr.drew w' → w'.cell? ⟨b, off + j * 2 + 1, none⟩ = some (.string v.2) := fun w' hg => c1'' w' (Grows.toDrew hg)
      repeat (first
        | (refine wpLin_skip rfl rfl (fun K hK => ?_); go_simp; refine hK _ ?_; clear hK K)
        | (refine wpLin_take (v := ?_) rfl rfl (fun w' hw' => ?_) (fun K hK => ?_); rotate_left; (go_simp; rfl); (go_simp; refine hK _ ?_; clear hK K)))
      clear c1d c1''
      refine wpLin_do rfl (fun K hK => ?_); go_simp; refine hK _ _ ((Grows.refl wr).alloc _).drew.ofDrew ?_; clear hK K
      have g1 : ∀ w', Grows (wr.alloc (.cells #[.int .i64 0, .int .i64 0, .int .i64 4, .int .i64 8, .int .i64 4] 3)).drew w' → w'.cell? ⟨wr.heap.size, 1, none⟩ = some (.int .i64 0) := fun w' hg => (Grows.toDrew hg).cell (by simp [go_sem])
      repeat (first
        | (refine wpLin_skip rfl rfl (fun K hK => ?_); go_simp; refine hK _ ?_; clear hK K)
        | (refine wpLin_take (v := ?_) rfl rfl (fun w' hw' => ?_) (fun K hK => ?_); rotate_left; (go_simp; rfl); (go_simp; refine hK _ ?_; clear hK K)))
      refine wpLin_nil ?_
      go_wp2
      go_roundw
      case rel => exact ⟨j + 1, t + 0 + v.2.size, by omega, by go_num, by go_num, hsn, by omega, (balloc hwr _).drew, ((hwx.alloc hwx.size _)).drew⟩
      case measure => simp [intOf]; omega
    · obtain rfl : j = nR := by omega
      have hall : r.take j = r := List.take_of_length_le (by rw [HlR.out]; exact Nat.le_refl _)
      have hlen : (plainB 1 r).length = (j + 7) / 8 := by
        unfold plainB
        rw [if_pos rfl, packed1_length, List.length_map, HlR.out]
      obtain ⟨PB, hPB⟩ : ∃ PB, PB = plainB 1 r := ⟨_, rfl⟩
      have hE := fun w' h => plainE_any 1 aoR j capR r w' (by decide) (by decide) HlR.out (by omega) Hs.out h
      rw [← hPB] at hlen hE
      have Hlen := Lib.hid hlen; clear hlen hPB hall
      have hcR' := hcR.at hwx
      clear hcR
      go_wp2_with fail
      refine (hE _ hcR').mono ?_
      rintro e x3 ⟨v3, rfl, hf3⟩
      have hx3 := bmore hwr hf3.2
      obtain ⟨ao3, n3, cap3, rfl, Hn3, -, -, -⟩ := hf3.u8
      have hfin : (n3 : Int) = ((j : Int) + 7) / 8 := by
        have := Hn3.out; rw [Hlen.out] at this; omega
      have hnn : n3 = (j + 7) / 8 := by omega
      subst hnn
      clear hf3
      go_wp2
      go_ret
      exact ⟨rfl, hx3⟩

set_option maxHeartbeats 4000000 in
set_option maxRecDepth 100000 in
theorem plainSizes_2 (a0 : Int) (a1 : Option Addr) (len1 cap1 : Nat) (z1 : List Vl) (w : World) (w0 : (Lit.int .i64 a0).wf = true) (w1 : IsVals w a1 len1 cap1 z1) (hq : a0 % 4 = 1) :
    Calls Try.prog 3 #[.int .i64 a0, .slice a1 len1 cap1] w fun e w' => e = .returned (.bool true) ∧ Below w.heap.size w w' := by
  obtain ⟨ha1, ha2⟩ := bounds_i64 w0
  have Hq := Lib.hid hq; clear hq
  have hs100 := allV_sizes 2 z1
  have hl60 := allV_length 2 z1
  have he : Hid (∀ v ∈ allV 2 z1, v.2.size = 0) := Lib.hid (allV_empty 2 z1 (by decide))
  have hA := fun (w' : World) (h : IsVals w' a1 len1 cap1 z1) => all_any 2 a1 len1 cap1 z1 w' (by decide) (by decide) h
  obtain ⟨r, hr⟩ : ∃ r, r = allV 2 z1 := ⟨_, rfl⟩
  rw [← hr] at hs100 hl60 hA he
  have Hs := Lib.hid hs100; clear hs100 hr
  go_enter Try.func3, Try.ntmps3
  go_wp2_with (go_at_call 10; refine (known_any _).mono ?_; rintro e x1 ⟨rfl, hx1⟩)
  refine (within_any _ _ _ (by omega) (by omega) ha1 ha2).mono ?_; rw [Hq.out]; rintro e x2 ⟨rfl, rfl⟩
  go_wp2_with fail
  refine (hA _ (w1.below hx1)).mono ?_
  rintro e x2 ⟨v, rfl, hf⟩
  have hx2 := bmore hx1 hf.2
  obtain ⟨aoR, nR, capR, rfl, HlR, hncR, hcR, hnR⟩ := hf.open_
  have hn60 : nR ≤ 60 := by rw [← HlR.out]; omega
  clear hf hA hl60 w1
  go_wp2
  go_loopw [7, 8] (fun s i wr => ∃ j t : Nat, j ≤ nR ∧ i = .int .i64 j ∧ s = .int .i64 t ∧ Hid (t = sumSz 4 (r.take j)) ∧ t ≤ 108 * j ∧ Below w.heap.size w wr ∧ Below x2.heap.size x2 wr) (fun _ i _ => nR - (intOf i).toNat)
  case atStart => exact ⟨0, 0, Nat.zero_le _, rfl, rfl, Lib.hid rfl, Nat.zero_le _, hx2, Below.refl _ _⟩
  case round =>
    obtain ⟨j, t, hj, rfl, rfl, ht, ht2, hwr, hwx⟩ := hrel
    by_cases hlt : j < nR
    · obtain ⟨b, off, rfl, hb, c0, c1⟩ := hcR.val hlt
      have c1' := (hwx.cell (by exact hb)).trans c1
      clear c0 c1 hcR
      obtain ⟨v, hv⟩ : ∃ v, v = r.getD j vl0 := ⟨_, rfl⟩
      rw [vS, ← hv] at c1'
      have hv100 : v.2.size ≤ 100 := by
        rw [hv, List.getD_eq_getElem?_getD, List.getElem?_eq_getElem (by rw [HlR.out]; exact hlt)]
        exact Hs.out _ (List.getElem_mem _)
      have hsn : Hid (t + 4 + v.2.size = sumSz 4 (r.take (j + 1))) := Lib.hid (by
        rw [take_vl r j (by rw [HlR.out]; exact hlt), sumSz_snoc, ← hv, ← ht.out]; omega)
      clear hv
      have e1 : IntKind.i64.wrap ((t : Int) + 4) = (t : Int) + 4 := IntWalk.i64_in _ (by omega)
      have e2 : IntKind.i64.wrap ((t : Int) + 4 + (v.2.size : Int)) = ((t + 4 + v.2.size : Nat) : Int) := (IntWalk.i64_in _ (by omega)).trans (by omega)
      have e3 : IntKind.i64.wrap ((t : Int) + (v.2.size : Int)) = ((t + v.2.size : Nat) : Int) := (IntWalk.i64_in _ (by omega)).trans (by omega)
      have c1'' : ∀ w', Grows wr w' → w'.cell? ⟨b, off + j * 2 + 1, none⟩ = some (.string v.2) := fun w' hg => hg.cell c1'
      go_wp2
      refine wp_region_lin [(0, true), (2, true), (6, true), (7, true), (8, true), (9, true), (10, true), (11, true), (1, false), (3, true), (4, true), (5, true), (12, true), (13, true)] (by kernel_rfl) (by kernel_rfl) (fun d _ _ _ _ h => by cases d <;> exact h) ?_
      have c1d : ∀ w', Grows wr.drew w' → w'.cell? ⟨b, off + j * 2 + 1, none⟩ = some (.string v.2) := fun w' hg => c1'' w' (Grows.toDrew hg)
      repeat (first
        | (refine wpLin_skip rfl rfl (fun K hK => ?_); go_simp; refine hK _ ?_; clear hK K)
        | (refine wpLin_take (v := ?_) rfl rfl (fun w' hw' => ?_) (fun K hK => ?_); rotate_left; (go_simp; rfl); (go_simp; refine hK _ ?_; clear hK K)))
      clear c1d c1''
      refine wpLin_do rfl (fun K hK => ?_); go_simp; refine hK _ _ ((Grows.refl wr).alloc _).drew.ofDrew ?_; clear hK K
      have g1 : ∀ w', Grows (wr.alloc (.cells #[.int .i64 0, .int .i64 0, .int .i64 4, .int .i64 8, .int .i64 4] 3)).drew w' → w'.cell? ⟨wr.heap.size, 2, none⟩ = some (.int .i64 4) := fun w' hg => (Grows.toDrew hg).cell (by simp [go_sem])
      repeat (first
        | (refine wpLin_skip rfl rfl (fun K hK => ?_); go_simp; refine hK _ ?_; clear hK K)
        | (refine wpLin_take (v := ?_) rfl rfl (fun w' hw' => ?_) (fun K hK => ?_); rotate_left; (go_simp; rfl); (go_simp; refine hK _ ?_; clear hK K)))
      refine wpLin_nil ?_
      go_wp2
      go_roundw
      case rel => exact ⟨j + 1, t + 4 + v.2.size, by omega, by go_num, by go_num, hsn, by omega, (balloc hwr _).drew, ((hwx.alloc hwx.size _)).drew⟩
      case measure => simp [intOf]; omega
    · obtain rfl : j = nR := by omega
      have hall : r.take j = r := List.take_of_length_le (by rw [HlR.out]; exact Nat.le_refl _)
      have hlen : (plainB 2 r).length = t := by
        unfold plainB
        rw [if_neg (by decide), encs_lenk 2 r (by decide) he.out, ht.out, hall]; rfl
      obtain ⟨PB, hPB⟩ : ∃ PB, PB = plainB 2 r := ⟨_, rfl⟩
      have hE := fun w' h => plainE_any 2 aoR j capR r w' (by decide) (by decide) HlR.out (by omega) Hs.out h
      rw [← hPB] at hlen hE
      have Hlen := Lib.hid hlen; clear hlen hPB hall
      have hcR' := hcR.at hwx
      clear hcR
      go_wp2_with fail
      refine (hE _ hcR').mono ?_
      rintro e x3 ⟨v3, rfl, hf3⟩
      have hx3 := bmore hwr hf3.2
      obtain ⟨ao3, n3, cap3, rfl, Hn3, -, -, -⟩ := hf3.u8
      have hfin : (n3 : Int) = (t : Int) := by
        have := Hn3.out; rw [Hlen.out] at this; omega
      obtain rfl : n3 = t := by omega
      clear hf3
      go_wp2
      go_ret
      exact ⟨rfl, hx3⟩

set_option maxHeartbeats 4000000 in
set_option maxRecDepth 100000 in
theorem plainSizes_3 (a0 : Int) (a1 : Option Addr) (len1 cap1 : Nat) (z1 : List Vl) (w : World) (w0 : (Lit.int .i64 a0).wf = true) (w1 : IsVals w a1 len1 cap1 z1) (hq : a0 % 4 = 2) :
    Calls Try.prog 3 #[.int .i64 a0, .slice a1 len1 cap1] w fun e w' => e = .returned (.bool true) ∧ Below w.heap.size w w' := by
  obtain ⟨ha1, ha2⟩ := bounds_i64 w0
  have Hq := Lib.hid hq; clear hq
  have hs100 := allV_sizes 3 z1
  have hl60 := allV_length 3 z1
  have he : Hid (∀ v ∈ allV 3 z1, v.2.size = 0) := Lib.hid (allV_empty 3 z1 (by decide))
  have hA := fun (w' : World) (h : IsVals w' a1 len1 cap1 z1) => all_any 3 a1 len1 cap1 z1 w' (by decide) (by decide) h
  obtain ⟨r, hr⟩ : ∃ r, r = allV 3 z1 := ⟨_, rfl⟩
  rw [← hr] at hs100 hl60 hA he
  have Hs := Lib.hid hs100; clear hs100 hr
  go_enter Try.func3, Try.ntmps3
  go_wp2_with (go_at_call 10; refine (known_any _).mono ?_; rintro e x1 ⟨rfl, hx1⟩)
  refine (within_any _ _ _ (by omega) (by omega) ha1 ha2).mono ?_; rw [Hq.out]; rintro e x2 ⟨rfl, rfl⟩
  go_wp2_with fail
  refine (hA _ (w1.below hx1)).mono ?_
  rintro e x2 ⟨v, rfl, hf⟩
  have hx2 := bmore hx1 hf.2
  obtain ⟨aoR, nR, capR, rfl, HlR, hncR, hcR, hnR⟩ := hf.open_
  have hn60 : nR ≤ 60 := by rw [← HlR.out]; omega
  clear hf hA hl60 w1
  go_wp2
  go_loopw [7, 8] (fun s i wr => ∃ j t : Nat, j ≤ nR ∧ i = .int .i64 j ∧ s = .int .i64 t ∧ Hid (t = sumSz 8 (r.take j)) ∧ t ≤ 108 * j ∧ Below w.heap.size w wr ∧ Below x2.heap.size x2 wr) (fun _ i _ => nR - (intOf i).toNat)
  case atStart => exact ⟨0, 0, Nat.zero_le _, rfl, rfl, Lib.hid rfl, Nat.zero_le _, hx2, Below.refl _ _⟩
  case round =>
    obtain ⟨j, t, hj, rfl, rfl, ht, ht2, hwr, hwx⟩ := hrel
    by_cases hlt : j < nR
    · obtain ⟨b, off, rfl, hb, c0, c1⟩ := hcR.val hlt
      have c1' := (hwx.cell (by exact hb)).trans c1
      clear c0 c1 hcR
      obtain ⟨v, hv⟩ : ∃ v, v = r.getD j vl0 := ⟨_, rfl⟩
      rw [vS, ← hv] at c1'
      have hv100 : v.2.size ≤ 100 := by
        rw [hv, List.getD_eq_getElem?_getD, List.getElem?_eq_getElem (by rw [HlR.out]; exact hlt)]
        exact Hs.out _ (List.getElem_mem _)
      have hsn : Hid (t + 8 + v.2.size = sumSz 8 (r.take (j + 1))) := Lib.hid (by
        rw [take_vl r j (by rw [HlR.out]; exact hlt), sumSz_snoc, ← hv, ← ht.out]; omega)
      clear hv
      have e1 : IntKind.i64.wrap ((t : Int) + 8) = (t : Int) + 8 := IntWalk.i64_in _ (by omega)
      have e2 : IntKind.i64.wrap ((t : Int) + 8 + (v.2.size : Int)) = ((t + 8 + v.2.size : Nat) : Int) := (IntWalk.i64_in _ (by omega)).trans (by omega)
      have e3 : IntKind.i64.wrap ((t : Int) + (v.2.size : Int)) = ((t + v.2.size : Nat) : Int) := (IntWalk.i64_in _ (by omega)).trans (by omega)
      have c1'' : ∀ w', Grows wr w' → w'.cell? ⟨b, off + j * 2 + 1, none⟩ = some (.string v.2) := fun w' hg => hg.cell c1'
      go_wp2
      refine wp_region_lin [(0, true), (2, true), (6, true), (7, true), (8, true), (9, true), (10, true), (11, true), (1, false), (3, true), (4, true), (5, true), (12, true), (13, true)] (by kernel_rfl) (by kernel_rfl) (fun d _ _ _ _ h => by cases d <;> exact h) ?_
      have c1d : ∀ w', Grows wr.drew w' → w'.cell? ⟨b, off + j * 2 + 1, none⟩ = some (.string v.2) := fun w' hg => c1'' w' (Grows.toDrew hg)
      repeat (first
        | (refine wpLin_skip rfl rfl (fun K hK => ?_); go_simp; refine hK _ ?_; clear hK K)
        | (refine wpLin_take (v := ?_) rfl rfl (fun w' hw' => ?_) (fun K hK => ?_); rotate_left; (go_simp; rfl); (go_simp; refine hK _ ?_; clear hK K)))
      clear c1d c1''
      refine wpLin_do rfl (fun K hK => ?_); go_simp; refine hK _ _ ((Grows.refl wr).alloc _).drew.ofDrew ?_; clear hK K
      have g1 : ∀ w', Grows (wr.alloc (.cells #[.int .i64 0, .int .i64 0, .int .i64 4, .int .i64 8, .int .i64 4] 3)).drew w' → w'.cell? ⟨wr.heap.size, 3, none⟩ = some (.int .i64 8) := fun w' hg => (Grows.toDrew hg).cell (by simp [go_sem])
      repeat (first
        | (refine wpLin_skip rfl rfl (fun K hK => ?_); go_simp; refine hK _ ?_; clear hK K)
        | (refine wpLin_take (v := ?_) rfl rfl (fun w' hw' => ?_) (fun K hK => ?_); rotate_left; (go_simp; rfl); (go_simp; refine hK _ ?_; clear hK K)))
      refine wpLin_nil ?_
      go_wp2
      go_roundw
      case rel => exact ⟨j + 1, t + 8 + v.2.size, by omega, by go_num, by go_num, hsn, by omega, (balloc hwr _).drew, ((hwx.alloc hwx.size _)).drew⟩
      case measure => simp [intOf]; omega
    · obtain rfl : j = nR := by omega
      have hall : r.take j = r := List.take_of_length_le (by rw [HlR.out]; exact Nat.le_refl _)
      have hlen : (plainB 3 r).length = t := by
        unfold plainB
        rw [if_neg (by decide), encs_lenk 3 r (by decide) he.out, ht.out, hall]; rfl
      obtain ⟨PB, hPB⟩ : ∃ PB, PB = plainB 3 r := ⟨_, rfl⟩
      have hE := fun w' h => plainE_any 3 aoR j capR r w' (by decide) (by decide) HlR.out (by omega) Hs.out h
      rw [← hPB] at hlen hE
      have Hlen := Lib.hid hlen; clear hlen hPB hall
      have hcR' := hcR.at hwx
      clear hcR
      go_wp2_with fail
      refine (hE _ hcR').mono ?_
      rintro e x3 ⟨v3, rfl, hf3⟩
      have hx3 := bmore hwr hf3.2
      obtain ⟨ao3, n3, cap3, rfl, Hn3, -, -, -⟩ := hf3.u8
      have hfin : (n3 : Int) = (t : Int) := by
        have := Hn3.out; rw [Hlen.out] at this; omega
      obtain rfl : n3 = t := by omega
      clear hf3
      go_wp2
      go_ret
      exact ⟨rfl, hx3⟩

set_option maxHeartbeats 4000000 in
set_option maxRecDepth 100000 in
theorem plainSizes_4 (a0 : Int) (a1 : Option Addr) (len1 cap1 : Nat) (z1 : List Vl) (w : World) (w0 : (Lit.int .i64 a0).wf = true) (w1 : IsVals w a1 len1 cap1 z1) (hq : a0 % 4 = 3) :
    Calls Try.prog 3 #[.int .i64 a0, .slice a1 len1 cap1] w fun e w' => e = .returned (.bool true) ∧ Below w.heap.size w w' := by
  obtain ⟨ha1, ha2⟩ := bounds_i64 w0
  have Hq := Lib.hid hq; clear hq
  have hs100 := allV_sizes 4 z1
  have hl60 := allV_length 4 z1
  have hA := fun (w' : World) (h : IsVals w' a1 len1 cap1 z1) => all_any 4 a1 len1 cap1 z1 w' (by decide) (by decide) h
  obtain ⟨r, hr⟩ : ∃ r, r = allV 4 z1 := ⟨_, rfl⟩
  rw [← hr] at hs100 hl60 hA
  have Hs := Lib.hid hs100; clear hs100 hr
  go_enter Try.func3, Try.ntmps3
  go_wp2_with (go_at_call 10; refine (known_any _).mono ?_; rintro e x1 ⟨rfl, hx1⟩)
  refine (within_any _ _ _ (by omega) (by omega) ha1 ha2).mono ?_; rw [Hq.out]; rintro e x2 ⟨rfl, rfl⟩
  go_wp2_with fail
  refine (hA _ (w1.below hx1)).mono ?_
  rintro e x2 ⟨v, rfl, hf⟩
  have hx2 := bmore hx1 hf.2
  obtain ⟨aoR, nR, capR, rfl, HlR, hncR, hcR, hnR⟩ := hf.open_
  have hn60 : nR ≤ 60 := by rw [← HlR.out]; omega
  clear hf hA hl60 w1
  go_wp2
  go_loopw [7, 8] (fun s i wr => ∃ j t : Nat, j ≤ nR ∧ i = .int .i64 j ∧ s = .int .i64 t ∧ Hid (t = sumSz 4 (r.take j)) ∧ t ≤ 108 * j ∧ Below w.heap.size w wr ∧ Below x2.heap.size x2 wr) (fun _ i _ => nR - (intOf i).toNat)
  case atStart => exact ⟨0, 0, Nat.zero_le _, rfl, rfl, Lib.hid rfl, Nat.zero_le _, hx2, Below.refl _ _⟩
  case round =>
    obtain ⟨j, t, hj, rfl, rfl, ht, ht2, hwr, hwx⟩ := hrel
    by_cases hlt : j < nR
    · obtain ⟨b, off, rfl, hb, c0, c1⟩ := hcR.val hlt
      have c1' := (hwx.cell (by exact hb)).trans c1
      clear c0 c1 hcR
      obtain ⟨v, hv⟩ : ∃ v, v = r.getD j vl0 := ⟨_, rfl⟩
      rw [vS, ← hv] at c1'
      have hv100 : v.2.size ≤ 100 := by
        rw [hv, List.getD_eq_getElem?_getD, List.getElem?_eq_getElem (by rw [HlR.out]; exact hlt)]
        exact Hs.out _ (List.getElem_mem _)
      have hsn : Hid (t + 4 + v.2.size = sumSz 4 (r.take (j + 1))) := Lib.hid (by
        rw [take_vl r j (by rw [HlR.out]; exact hlt), sumSz_snoc, ← hv, ← ht.out]; omega)
      clear hv
      have e1 : IntKind.i64.wrap ((t : Int) + 4) = (t : Int) + 4 := IntWalk.i64_in _ (by omega)
      have e2 : IntKind.i64.wrap ((t : Int) + 4 + (v.2.size : Int)) = ((t + 4 + v.2.size : Nat) : Int) := (IntWalk.i64_in _ (by omega)).trans (by omega)
      have e3 : IntKind.i64.wrap ((t : Int) + (v.2.size : Int)) = ((t + v.2.size : Nat) : Int) := (IntWalk.i64_in _ (by omega)).trans (by omega)
      have c1'' : ∀ w', Grows wr w' → w'.cell? ⟨b, off + j * 2 + 1, none⟩ = some (.string v.2) := fun w' hg => hg.cell c1'
      go_wp2
      refine wp_region_lin [(0, true), (2, true), (6, true), (7, true), (8, true), (9, true), (10, true), (11, true), (1, false), (3, true), (4, true), (5, true), (12, true), (13, true)] (by kernel_rfl) (by kernel_rfl) (fun d _ _ _ _ h => by cases d <;> exact h) ?_
      have c1d : ∀ w', Grows wr.drew w' → w'.cell? ⟨b, off + j * 2 + 1, none⟩ = some (.string v.2) := fun w' hg => c1'' w' (Grows.toDrew hg)
      repeat (first
        | (refine wpLin_skip rfl rfl (fun K hK => ?_); go_simp; refine hK _ ?_; clear hK K)
        | (refine wpLin_take (v := ?_) rfl rfl (fun w' hw' => ?_) (fun K hK => ?_); rotate_left; (go_simp; rfl); (go_simp; refine hK _ ?_; clear hK K)))
      clear c1d c1''
      refine wpLin_do rfl (fun K hK => ?_); go_simp; refine hK _ _ ((Grows.refl wr).alloc _).drew.ofDrew ?_; clear hK K
      have g1 : ∀ w', Grows (wr.alloc (.cells #[.int .i64 0, .int .i64 0, .int .i64 4, .int .i64 8, .int .i64 4] 3)).drew w' → w'.cell? ⟨wr.heap.size, 4, none⟩ = some (.int .i64 4) := fun w' hg => (Grows.toDrew hg).cell (by simp [go_sem])
      repeat (first
        | (refine wpLin_skip rfl rfl (fun K hK => ?_); go_simp; refine hK _ ?_; clear hK K)
        | (refine wpLin_take (v := ?_) rfl rfl (fun w' hw' => ?_) (fun K hK => ?_); rotate_left; (go_simp; rfl); (go_simp; refine hK _ ?_; clear hK K)))
      refine wpLin_nil ?_
      go_wp2
      go_roundw
      case rel => exact ⟨j + 1, t + 4 + v.2.size, by omega, by go_num, by go_num, hsn, by omega, (balloc hwr _).drew, ((hwx.alloc hwx.size _)).drew⟩
      case measure => simp [intOf]; omega
    · obtain rfl : j = nR := by omega
      have hall : r.take j = r := List.take_of_length_le (by rw [HlR.out]; exact Nat.le_refl _)
      have hlen : (plainB 4 r).length = t := by
        unfold plainB
        rw [if_neg (by decide), encs_len4, ht.out, hall]
      obtain ⟨PB, hPB⟩ : ∃ PB, PB = plainB 4 r := ⟨_, rfl⟩
      have hE := fun w' h => plainE_any 4 aoR j capR r w' (by decide) (by decide) HlR.out (by omega) Hs.out h
      rw [← hPB] at hlen hE
      have Hlen := Lib.hid hlen; clear hlen hPB hall
      have hcR' := hcR.at hwx
      clear hcR
      go_wp2_with fail
      refine (hE _ hcR').mono ?_
      rintro e x3 ⟨v3, rfl, hf3⟩
      have hx3 := bmore hwr hf3.2
      obtain ⟨ao3, n3, cap3, rfl, Hn3, -, -, -⟩ := hf3.u8
      have hfin : (n3 : Int) = (t : Int) := by
        have := Hn3.out; rw [Hlen.out] at this; omega
      obtain rfl : n3 = t := by omega
      clear hf3
      go_wp2
      go_ret
      exact ⟨rfl, hx3⟩

theorem plainSizes_walk (a0 : Int) (a1 : Option Addr) (len1 cap1 : Nat) (z1 : List Vl) (w : World) (w0 : (Lit.int .i64 a0).wf = true) (w1 : IsVals w a1 len1 cap1 z1) :
    Calls Try.prog 3 #[.int .i64 a0, .slice a1 len1 cap1] w fun e w' => e = .returned (.bool true) ∧ Below w.heap.size w w' := by
  have hq : a0 % 4 = 0 ∨ a0 % 4 = 1 ∨ a0 % 4 = 2 ∨ a0 % 4 = 3 := by omega
  rcases hq with h | h | h | h
  · exact plainSizes_1 a0 a1 len1 cap1 z1 w w0 w1 h
  · exact plainSizes_2 a0 a1 len1 cap1 z1 w w0 w1 h
  · exact plainSizes_3 a0 a1 len1 cap1 z1 w w0 w1 h
  · exact plainSizes_4 a0 a1 len1 cap1 z1 w w0 w1 h
end Go.Proofs.Ytailcciimbjpgaa
