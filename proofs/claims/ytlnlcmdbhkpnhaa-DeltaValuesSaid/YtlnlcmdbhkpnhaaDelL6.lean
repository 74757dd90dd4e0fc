/- Chapter 12: the law DeltaReads. -/
import Derived.Test.YtlnlcmdbhkpnhaaDelM
import Derived.Test.YtlnlcmdbhkpnhaaDelRI
import Derived.Test.YtlnlcmdbhkpnhaaDelRR
import Derived.Test.YtlnlcmdbhkpnhaaReads
import Derived.Deep.CutBlock
namespace Go.Proofs.Ytlnlcmdbhkpnhaa
open Go.RowKit
set_option linter.unusedVariables false

theorem blockR_bad (b : List Nat) (l : List Int) (n : Nat) (h : (blockR b l n).2.2 ≠ 0) : (blockR b l n).2.1 = l := by
  unfold blockR at h ⊢
  split at h
  · rename_i h1; rw [if_pos h1]
  · rename_i h1; rw [if_neg h1]
    unfold blockT at h ⊢
    repeat' split at h
    all_goals first | (exact absurd rfl h) | skip
    · rename_i h1; rw [if_pos h1]
    · rename_i h1 h2; rw [if_neg h1, if_pos h2]
    · rename_i h1 h2 h3; rw [if_neg h1, if_neg h2, if_pos h3]
    · rename_i h1 h2 h3 h4; rw [if_neg h1, if_neg h2, if_neg h3, if_pos h4]
theorem blocksR_len (n : Nat) : ∀ (k : Nat) (b : List Nat) (l : List Int), l.length ≤ n → (blocksR k b l n).2.1.length ≤ n
  | 0, b, l, h => h
  | k + 1, b, l, h => by
    unfold blocksR
    split
    · split
      · rename_i h1 h2; rw [blockR_bad _ _ _ h2]; exact h
      · rename_i h1 h2
        refine blocksR_len n k _ _ ?_
        rw [blockR_facts _ _ _ (by simpa using h2)]; omega
    · exact h
theorem dReadM_len (b : List Nat) (n : Int) : (dReadM b n).1.length ≤ 4000 := by
  unfold dReadM
  split
  · simp
  · rename_i h0
    split
    · simp
    · split
      · simp
      · split
        · simp
        · have := blocksR_len n.toNat n.toNat (zigR b).2.1 [(zigR b).1] (by simp; omega)
          simp only []; omega

set_option maxHeartbeats 8000000 in
set_option maxRecDepth 100000 in
theorem deltaReads_walk (a0 : Option Addr) (len0 cap0 : Nat) (z0 : List Int) (a1 : Int) (a2 : Option Addr) (len2 cap2 : Nat) (z2 : List Int) (a3 : Option Addr) (len3 cap3 : Nat) (z3 : List Int) (a4 : Int) (a5 : Option Addr) (len5 cap5 : Nat) (z5 : List Int) (w : World)
    (w0 : IsRow .i64 w a0 len0 cap0 z0) (w1 : (Lit.int .i64 a1).wf = true) (w2 : IsRow .i64 w a2 len2 cap2 z2) (w3 : IsRow .u8 w a3 len3 cap3 z3) (w4 : (Lit.int .i64 a4).wf = true) (w5 : IsRow .u8 w a5 len5 cap5 z5) :
    Calls Try.prog 6 #[.slice a0 len0 cap0, .int .i64 a1, .slice a2 len2 cap2, .slice a3 len3 cap3, .int .i64 a4, .slice a5 len5 cap5] w fun e w' => e = .returned (.bool true) ∧ Below w.heap.size w w' := by
  obtain ⟨hn1, hn2⟩ := bounds_i64 w1
  obtain ⟨hcut1, hcut2⟩ := bounds_i64 w4
  obtain ⟨ns, hnl, hnb, hnc, -, hnlen⟩ := w0.i64
  obtain ⟨os, hol, hob, hoc, -, holen⟩ := w2.i64
  obtain ⟨ys, hyl, hyb, hyc, -, hylen⟩ := w3.u8
  have hz5 : a5 = none → len5 = 0 ∧ cap5 = 0 := by have := w5.open_; exact this.2.2.1
  have hcap5 : len5 ≤ cap5 := by have := w5.open_; exact this.1
  obtain ⟨M, hMl, hMb, hMc, hMn, hlen5⟩ := w5.u8
  have Hol := Lib.hid hol; have Hob := Lib.hid hob; have Hyl := Lib.hid hyl; have Hyb := Lib.hid hyb
  have HMl := Lib.hid hMl; have HMb := Lib.hid hMb; have Hz5 := Lib.hid hz5; have Hnl := Lib.hid hnl; have Hnb := Lib.hid (show ∀ x ∈ ns, inI64 x from hnb)
  clear hol hob hyl hyb hMl hMb w2 w3 w5 hMn hz5 hnl hnb w0
  by_cases c0 : 100 < len0
  · have b1 : (100 : Int) < (len0 : Int) := by omega
    go_enter Try.func6, Try.ntmps6
    go_wp2_with (go_at_call 12; refine (known_any _).mono ?_; rintro e x1 ⟨rfl, hx1⟩)
    go_ret
    exact ⟨rfl, hx1⟩
  have b1 : ¬ (100 : Int) < (len0 : Int) := by omega
  by_cases c1 : 100 < len5
  · have b2 : (100 : Int) < (len5 : Int) := by omega
    go_enter Try.func6, Try.ntmps6
    go_wp2_with (go_at_call 12; refine (known_any _).mono ?_; rintro e x1 ⟨rfl, hx1⟩)
    go_ret
    exact ⟨rfl, hx1⟩
  have b2 : ¬ (100 : Int) < (len5 : Int) := by omega
  have h256 := dIntsB_lt ns Hnb.out
  have hle := dIntsB_bound ns
  rw [Hnl.out] at hle
  have hle2 : (dIntsB ns).length ≤ 1200 := by omega
  have HRE : Hid (∀ z : World, CellsAt z z.heap.size a0 len0 (i64c ns) → Calls Try.prog 18 #[.slice a0 len0 cap0] z (GaveB z (dIntsB ns))) := Lib.hid (fun z hz => rdInts_any a0 len0 cap0 ns z Hnl.out (by omega) hz Hnb.out)
  obtain ⟨B, hB⟩ : ∃ B, B = dIntsB ns := ⟨_, rfl⟩
  rw [← hB] at HRE h256 hle2
  have H256 := Lib.hid h256; have HBl := Lib.hid hle2
  clear h256 hle hle2 hB c0 c1
  go_enter Try.func6, Try.ntmps6
  go_wp2_with fail
  refine (known_any _).mono ?_
  rintro e x2 ⟨rfl, hx2⟩
  have hcR := hnc.at hx2
  go_wp2_with fail
  refine (HRE.out _ hcR).mono ?_
  intro e x3 hg
  obtain ⟨aoE, nE, capE, rfl, HnE0, hcE, hzE, -, hx3⟩ := hg.opened
  have HnE : Hid (nE = B.length) := Lib.hid HnE0.out.symm
  have hx3 := bmore hx2 hx3
  have hnE : nE ≤ 1200 := by have := HBl.out; rw [← HnE.out] at this; omega
  clear hg hcR HnE0 hnc
  go_wp2_with (at_builtin; refine wpList_append_clone1 sl_u8 rfl (.tmp 38) (.tmp 39) rfl rfl rfl (hcE.alloc (Nat.le_refl _) _) hzE (fun _ _ => rfl) (by unfold maxLen; omega) (by omega) ?_)
  intro aoD capD x4 hcD hbD hown
  have hy4 : Below x3.heap.size x3 x4 := (balloc (Below.refl _ _) _).trans (hbD.mono (by simp))
  have hrD : RowX x4 x3.heap.size aoD nE capD := by
    refine ⟨B, H256.out, HnE.out.symm, ?_⟩
    have h := hown.row
    rw [range_u8c B nE HnE.out.symm] at h
    exact h.imp id fun x => ⟨x.1, own_base x.2 (by simp)⟩
  clear hown hbD hcD
  go_upto_block 0 with fail
  go_cut [15] (fun v wx => RowX wx x3.heap.size aoD nE capD ∧ Below x3.heap.size x3 wx)
  case first =>
    have hsz3 := hx3.size
    go_wp2
    go_loopw [15] (fun i wr => ∃ j : Nat, j ≤ 3 ∧ i = .int .i64 j ∧ RowX wr x3.heap.size aoD nE capD ∧ Below x3.heap.size x3 wr) (fun i _ => 3 - (intOf i).toNat)
    case atStart => exact ⟨0, by omega, rfl, hrD, hy4⟩
    case round =>
      clear hrD hy4
      obtain ⟨j, hj, rfl, hrow, hwr⟩ := hrel
      have hxx : (j < len2 ∧ j < len3 ∧ j < 3 ∧ 0 < nE) ∨ ¬ j < len2 ∨ (j < len2 ∧ ¬ j < len3) ∨ (j < len2 ∧ j < len3 ∧ ¬ j < 3) ∨ (j < len2 ∧ j < len3 ∧ j < 3 ∧ ¬ 0 < nE) := by omega
      rcases hxx with ⟨h1, h2, h3, h4⟩ | hx
      · obtain ⟨g, rfl, hg, hcg, hst⟩ := hrow.pos h4
        obtain ⟨bo, oo, rfl, hbo, hco⟩ := hoc j h1
        obtain ⟨by_, oy, rfl, hby, hcy⟩ := hyc j h2
        obtain ⟨ov, hov⟩ : ∃ av, av = os.getD j 0 := ⟨_, rfl⟩
        have hov64 : -9223372036854775808 ≤ ov ∧ ov ≤ 9223372036854775807 := by
          rw [hov, List.getD_eq_getElem?_getD, List.getElem?_eq_getElem (by rw [Hol.out]; exact h1)]
          exact Hob.out _ (List.getElem_mem _)
        obtain ⟨yv, hyv⟩ : ∃ av, av = ys.getD j 0 := ⟨_, rfl⟩
        have hyv256 : yv < 256 := by rw [hyv]; exact getD_lt Hyb.out j
        rw [i64c, ← hov] at hco
        rw [u8c, ← hyv] at hcy
        obtain ⟨m, hm, hml⟩ := modN' ov nE h4
        have Hm : Hid (ov % (nE : Int) = (m : Int)) := Lib.hid hm
        obtain ⟨old, hold256, hcold, hfr⟩ := hcg m hml
        have hwt := hwr
        have hall : Below w.heap.size w wr := bmore hx3 hwr
        have ho1 : ∀ w', Grows wr.drew w' → w'.cell? ⟨bo, oo + j, none⟩ = some (.int .i64 ov) := fun w' hg => (Grows.toDrew hg).cell ((hall.cell (by exact hbo)).trans hco)
        have ho2 : ∀ w', Grows wr.drew w' → w'.cell? ⟨by_, oy + j, none⟩ = some (.int .u8 (yv : Nat)) := fun w' hg => (Grows.toDrew hg).cell ((hall.cell (by exact hby)).trans hcy)
        have ho3 : ∀ w', Grows wr.drew w' → w'.cell? ⟨g, m, none⟩ = some (.int .u8 (old : Nat)) := fun w' hg => (Grows.toDrew hg).cell hcold
        have e1 : (j : Int) < (len2 : Int) := by omega
        have e2 : (j : Int) < (len3 : Int) := by omega
        have e3 : (0 : Int) ≤ (j : Int) := by omega
        have e4 : (m : Int) < (nE : Int) := by omega
        have e5 : (0 : Int) ≤ (m : Int) := by omega
        have e6 : (0 : Int) < (nE : Int) := by omega
        have hwv : 0 ≤ IntKind.u8.wrap (((old : Nat) : Int) + ((yv : Nat) : Int)) ∧ IntKind.u8.wrap (((old : Nat) : Int) + ((yv : Nat) : Int)) < 256 := by rw [IntKind.wrap_u8]; omega
        have Hst := Lib.hid (hst m (IntKind.u8.wrap (((old : Nat) : Int) + ((yv : Nat) : Int))) hml hwv.1 hwv.2).drew
        have hsx : Below x3.heap.size x3 (wr.setCell ⟨g, m, none⟩ (.int .u8 (IntKind.u8.wrap (((old : Nat) : Int) + ((yv : Nat) : Int))))) := hwr.setCell (by exact hg) _
        have Hsx := Lib.hid hsx.drew
        clear hsx
        clear hm hov hyv hco hcy hwv hst hrow hcg hoc hyc hwr hall hwt
        go_wp2
        refine wp_region_linH [(0, 0), (1, 0), (2, 0), (3, 0), (4, 0), (5, 0), (6, 0), (10, 0), (11, 0), (12, 0), (13, 0), (7, 1), (8, 0), (9, 0), (14, 0), (15, 0), (16, 2)] [16] (by kernel_rfl) (by kernel_rfl) (fun d _ _ _ _ h => by cases d <;> exact h) ?_
        repeat (first
          | (refine wpLinH_skip rfl rfl (fun K hK => ?_); go_simp; refine hK _ ?_; clear hK K)
          | (refine wpLinH_take (v := ?_) rfl rfl (fun w' hw' => ?_) (fun K hK => ?_); rotate_left; (go_simp; rfl); (go_simp; refine hK _ ?_; clear hK K)))
        refine wpLinH_do rfl (fun K hK => ?_); go_simp
        refine (within_any _ _ _ (by omega) (by omega) hov64.1 hov64.2).mono ?_
        rw [Hm.out]
        rintro e y1 ⟨rfl, rfl⟩
        refine hK _ _ (Grows.refl _) ?_; clear hK K
        repeat (first
          | (refine wpLinH_skip rfl rfl (fun K hK => ?_); go_simp; refine hK _ ?_; clear hK K)
          | (refine wpLinH_take (v := ?_) rfl rfl (fun w' hw' => ?_) (fun K hK => ?_); rotate_left; (go_simp; rfl); (go_simp; refine hK _ ?_; clear hK K)))
        refine wpLinH_hard rfl (fun K hK => ?_); go_simp
        refine hK _ _ ?_; clear hK K
        refine wpLinH_nil ?_
        go_wp2
        go_roundw
        case rel => exact ⟨j + 1, by omega, by go_num, Hst.out, Hsx.out⟩
        case measure => simp [intOf]; omega
      · have Hrow := Lib.hid hrow; have Hwr := Lib.hid hwr
        clear hrow hwr hoc hyc
        rcases hx with h | ⟨h1, h⟩ | ⟨h1, h2, h⟩ | ⟨h1, h2, h3, h⟩
        all_goals
          go_wp2
          go_meet
          exact ⟨Hrow.out, Hwr.out⟩
  case rest =>
    obtain ⟨hrow, hwc⟩ := hcut
    obtain ⟨D, hDl, hDb, hDc, hDn, hDcap⟩ := hrow.bytes
    have hxD : BytesX wc aoD nE := ⟨D, hDl, hDb, hDc, hDn⟩
    have hcEc := hcE.at hwc
    have hxc := bmore hx3 hwc
    obtain ⟨m, hm, hml⟩ := modN' (a4.tdiv 3) (nE + 1) (by omega)
    have Hm : Hid (a4.tdiv 3 % ((nE : Int) + 1) = (m : Int)) := Lib.hid (by rw [← hm]; rfl)
    have ht1 := (tdivk' a4 3 (by decide) ⟨hcut1, hcut2⟩).1
    have ht2 := (tdivk' a4 3 (by decide) ⟨hcut1, hcut2⟩).2
    have hmc : (m : Int) ≤ (capD : Int) := by omega
    have hmn : m ≤ nE := by omega
    clear hrow hDl hDb hDc hDn hwc hrD hy4 hcE hm hml
    go_upto_if 80 with fail
    go_cut [14] (fun v wx => ∃ mD : Nat, v = .slice aoD mD capD ∧ mD ≤ nE ∧ wx = wc)
    case first =>
      by_cases h3 : a4.tmod 3 = 1
      · have h3' : (a4.tmod 3 == 1) = true := by rw [beq_iff_eq]; exact h3
        have ht1' : -9223372036854775808 ≤ a4.tdiv 3 := ht1
        clear h3
        go_wp2_with fail
        refine (within_any (a4.tdiv 3) ((nE : Int) + 1) _ (by omega) (by omega) ht1 ht2).mono ?_
        rw [Hm.out]
        rintro e y1 ⟨rfl, rfl⟩
        go_wp2
        go_meet
        exact ⟨m, rfl, hmn, rfl⟩
      · have h3' : (a4.tmod 3 == 1) = false := by rw [beq_eq_false_iff_ne]; exact h3
        clear h3
        go_wp2
        go_meet
        exact ⟨nE, rfl, Nat.le_refl _, rfl⟩
    case rest =>
      obtain ⟨mD, rfl, hmD, rfl⟩ := hcut
      have hxD := hxD.take hmD
      have hx6 : Below w.heap.size w wc := hxc
      have hXE : BytesX wc aoE nE := ⟨B, HnE.out.symm, H256.out, hcEc, hzE⟩
      have hXM : BytesX wc a5 len5 := ⟨M, HMl.out, HMb.out, hMc.at hxc, fun e => (Hz5.out e).1⟩
      have hR0 := slices3 (T := 26) (top := 8000) (c0 := capE) (c1 := capD) (c2 := cap5) hXE hxD hXM (by omega) (by omega) (by omega)
      obtain ⟨q5, hq5, hq5l⟩ := modN' a1 5 (by decide)
      have Hq5 : Hid (a1 % 5 = (q5 : Int)) := Lib.hid hq5
      clear hq5 hXE hXM hxD hcEc hxc
      go_wp2_with fail
      refine (within_any a1 5 _ (by omega) (by omega) hn1 hn2).mono ?_
      rw [Hq5.out]
      rintro e y1 ⟨rfl, rfl⟩
      have hN0 := nums3 (w := wc.alloc (.cells #[.slice aoE nE capE, .slice aoD mD capD, .slice a5 len5 cap5] 26)) (T := 3) (k0 := (len0 : Int)) (k1 := (len0 : Int) + (q5 : Int) - 2) (k2 := a1) (by omega) (by omega) (by omega)
      have hR1 := hR0.below ((Below.refl _ _).alloc (Nat.le_refl _) (.cells #[.int .i64 (len0 : Int), .int .i64 ((len0 : Int) + (q5 : Int) - 2), .int .i64 a1] 3))
      have hW1 : Below w.heap.size w ((wc.alloc (.cells #[.slice aoE nE capE, .slice aoD mD capD, .slice a5 len5 cap5] 26)).alloc (.cells #[.int .i64 (len0 : Int), .int .i64 ((len0 : Int) + (q5 : Int) - 2), .int .i64 a1] 3)) := balloc (balloc hx6 _) _
      rw [show (wc.alloc (.cells #[.slice aoE nE capE, .slice aoD mD capD, .slice a5 len5 cap5] 26)).heap.size = wc.heap.size + 1 by simp] at hN0
      have HR1 := Lib.hid hR1; have HN0 := Lib.hid hN0; have HW1 := Lib.hid hW1
      obtain ⟨gR, hgR⟩ : ∃ g, g = wc.heap.size := ⟨_, rfl⟩
      rw [← hgR] at HR1 HN0
      clear hR0 hR1 hN0 hW1
      go_wp2
      rw [← hgR]
      clear hgR
      go_loopw [18] (fun i wr => ∃ ii : Nat, ii ≤ 3 ∧ i = .int .i64 ii ∧ RowsX wr gR 3 8000 ∧ NumsX wr (gR + 1) 3 ∧ Below w.heap.size w wr) (fun i _ => 3 - (intOf i).toNat)
      case atStart => exact ⟨0, by omega, rfl, HR1.out, HN0.out, HW1.out⟩
      case round =>
        clear HR1 HN0 HW1
        obtain ⟨i, hi, rfl, hRX, hNX, hwr⟩ := hrel
        by_cases hi4 : i < 3
        · have e1 : (i : Int) < 3 := by omega
          have e2 : (0 : Int) ≤ (i : Int) := by omega
          go_wp2
          obtain ⟨wo, rfl⟩ : ∃ wo : World, wo = wr := ⟨_, rfl⟩
          go_loopw [19] (fun j wr => ∃ jj : Nat, jj ≤ 3 ∧ j = .int .i64 jj ∧ RowsX wr gR 3 8000 ∧ NumsX wr (gR + 1) 3 ∧ Below w.heap.size w wr) (fun j _ => 3 - (intOf j).toNat)
          case atStart => exact ⟨0, by omega, rfl, hRX, hNX, hwr⟩
          case round =>
            clear hRX hNX hwr
            obtain ⟨j, hj, rfl, hRX, hNX, hwr⟩ := hrel
            by_cases hj3 : j < 3
            · have e3 : (j : Int) < 3 := by omega
              have e4 : (0 : Int) ≤ (j : Int) := by omega
              obtain ⟨aoI, nI, capI, hcI, hnI, L, hLl, hLb, hLc, hLn⟩ := hRX i hi4
              obtain ⟨kj, hcK, hkj1, hkj2⟩ := hNX j hj3
              have f1 : ∀ w', Grows wr.drew w' → w'.cell? ⟨gR, i, none⟩ = some (.slice aoI nI capI) := fun w' hg => (Grows.toDrew hg).cell hcI
              have f2 : ∀ w', Grows wr.drew w' → w'.cell? ⟨gR + 1, j, none⟩ = some (.int .i64 kj) := fun w' hg => (Grows.toDrew hg).cell hcK
              have HLl := Lib.hid hLl; have HLb := Lib.hid hLb
              have HRX := Lib.hid hRX; have HNX := Lib.hid hNX; have Hwr := Lib.hid hwr; have HcI := Lib.hid hcI; have HcK := Lib.hid hcK; have HLc := Lib.hid hLc
              clear hLl hLb hRX hNX hwr hcI hcK hLc
              go_wp2
              refine wp_region_linH [(1, 0), (2, 0), (3, 0), (4, 0), (6, 0), (7, 0), (8, 0), (9, 0), (0, 1), (5, 1), (10, 1), (11, 0), (12, 0), (13, 0), (14, 0), (15, 0), (16, 0), (17, 0)] [] (by kernel_rfl) (by kernel_rfl) (fun d _ _ _ _ h => by cases d <;> exact h) ?_
              repeat (first
                | (refine wpLinH_skip rfl rfl (fun K hK => ?_); go_simp; refine hK _ ?_; clear hK K)
                | (refine wpLinH_take (v := ?_) rfl rfl (fun w' hw' => ?_) (fun K hK => ?_); rotate_left; (go_simp; rfl); (go_simp; refine hK _ ?_; clear hK K)))
              refine wpLinH_do rfl (fun K hK => ?_); go_simp; refine hK _ _ ((Grows.refl wr.drew).alloc _) ?_; clear hK K
              refine wpLinH_do rfl (fun K hK => ?_)
              refine step_append_clone1 sl_u8 rfl (.tmp 112) (.tmp 116) rfl rfl rfl (HLc.out.drew.alloc (Nat.le_refl _) _) hLn (fun _ _ => rfl) (by unfold maxLen; omega) (by omega) ?_
              intro aoA capA xA hcA hbA hclA
              have hbA2 : Below wr.heap.size wr xA := (balloc (Below.refl _ _).drew _).trans (hbA.mono (by simp))
              have hzA : aoA = none → nI = 0 := fun e => by
                rcases Nat.eq_zero_or_pos nI with h | h
                · exact h
                · obtain ⟨_, _, e2, -⟩ := hcA 0 h
                  rw [e] at e2; cases e2
              go_simp; have hcpA := hclA.cap
              refine hK _ _ (by exact hbA) ?_; clear hK K hbA hclA
              refine wpLinH_do rfl (fun K hK => ?_); go_simp
              obtain ⟨r, hr⟩ : ∃ r, r = dReadM L kj := ⟨_, rfl⟩
              have hrl : Hid (r.1.length ≤ 4000) := Lib.hid (by rw [hr]; exact dReadM_len _ _)
              have HD1 := Lib.hid (dRead_any aoA nI capA L kj xA HLl.out HLb.out (by omega) hcpA hcA)
              have HD2 := Lib.hid (fun (w' : World) (h : CellsAt w' w'.heap.size aoI nI (u8c L)) => rdRead_any aoI nI capI L kj w' HLl.out HLb.out (by omega) hLn h)
              rw [← hr] at HD1 HD2
              clear hr
              refine HD1.out.mono ?_
              intro e x8 hg8
              obtain ⟨aoX, nX, capX, rfl, HlX, hcX, hb8⟩ := hg8.opened
              refine hK _ _ hb8 ?_; clear hK K f1 f2 hcA hzA hg8 hcpA HD1
              have hy8 : Below wr.heap.size wr x8 := bmore hbA2 hb8
              clear hb8 hbA2
              repeat (first
                | (refine wpLinH_skip rfl rfl (fun K hK => ?_); go_simp; refine hK _ ?_; clear hK K)
                | (refine wpLinH_take (v := ?_) rfl rfl (fun w' hw' => ?_) (fun K hK => ?_); rotate_left; (go_simp; rfl); (go_simp; refine hK _ ?_; clear hK K)))
              refine wpLinH_nil ?_
              have f1 : ∀ w', Grows x8.drew w' → w'.cell? ⟨gR, i, none⟩ = some (.slice aoI nI capI) := fun w' hg => (Grows.toDrew hg).cell (Grows.cell hy8 HcI.out)
              have f2 : ∀ w', Grows x8.drew w' → w'.cell? ⟨gR + 1, j, none⟩ = some (.int .i64 kj) := fun w' hg => (Grows.toDrew hg).cell (Grows.cell hy8 HcK.out)
              have hLc8 := HLc.out.at hy8
              have Hy8 := Lib.hid hy8
              clear hy8
              go_wp2
              refine wp_region_linH [(0, 0), (1, 0), (2, 0), (3, 0), (4, 0), (5, 0), (6, 0), (7, 0), (8, 1), (9, 0), (10, 0), (11, 0), (12, 0), (13, 0), (14, 0), (15, 0)] [] (by kernel_rfl) (by kernel_rfl) (fun d _ _ _ _ h => by cases d <;> exact h) ?_
              repeat (first
                | (refine wpLinH_skip rfl rfl (fun K hK => ?_); go_simp; refine hK _ ?_; clear hK K)
                | (refine wpLinH_take (v := ?_) rfl rfl (fun w' hw' => ?_) (fun K hK => ?_); rotate_left; (go_simp; rfl); (go_simp; refine hK _ ?_; clear hK K)))
              refine wpLinH_do rfl (fun K hK => ?_); go_simp
              refine (HD2.out _ hLc8.drew).mono ?_
              intro e x9 hg9
              obtain ⟨aoY, nY, capY, rfl, HlY, hcY, hb9⟩ := hg9.opened
              refine hK _ _ hb9 ?_; clear hK K f1 f2 hg9 hLc8
              have hy9 : Below x8.heap.size x8 x9 := Grows.toDrew hb9
              repeat (first
                | (refine wpLinH_skip rfl rfl (fun K hK => ?_); go_simp; refine hK _ ?_; clear hK K)
                | (refine wpLinH_take (v := ?_) rfl rfl (fun w' hw' => ?_) (fun K hK => ?_); rotate_left; (go_simp; rfl); (go_simp; refine hK _ ?_; clear hK K)))
              refine wpLinH_nil ?_
              have hcX9 := hcX.at hy9
              have hnX : nX ≤ 4000 := by have := HlX.out; have := hrl.out; omega
              obtain rfl : nX = nY := HlX.out.symm.trans HlY.out
              have Hy9 := Lib.hid (bmore Hy8.out hy9)
              have HE := Lib.hid (ints_eq aoX aoY nX capX capY r.1 x9 (by omega) hcX9 hcY)
              clear hy9 hb9 hcX hcX9 hcY
              go_wp2_with fail
              refine HE.out.mono ?_
              rintro e x10 ⟨rfl, mm, rfl⟩
              have Hy10 := Lib.hid (below_drewN Hy9.out mm)
              go_wp2
              go_roundw
              case rel => exact ⟨j + 1, by omega, by go_num, HRX.out.below Hy10.out, HNX.out.below Hy10.out, bmore Hwr.out Hy10.out⟩
              case measure => simp [intOf]; omega
            · have HRX := Lib.hid hRX; have HNX := Lib.hid hNX; have Hwr := Lib.hid hwr
              clear hRX hNX hwr
              go_wp2
              go_roundw
              case rel => exact ⟨i + 1, by omega, by go_num, HRX.out, HNX.out, Hwr.out⟩
              case measure => simp [intOf]; omega
        · have Hwr := Lib.hid hwr
          clear hRX hNX hwr
          go_wp2
          go_ret
          exact ⟨rfl, Hwr.out⟩
end Go.Proofs.Ytlnlcmdbhkpnhaa
