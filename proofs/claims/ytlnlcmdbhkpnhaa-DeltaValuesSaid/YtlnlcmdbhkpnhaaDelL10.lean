/- Chapter 12: the law DeltaValues. -/
import Derived.Test.YtlnlcmdbhkpnhaaDelVL
import Derived.Deep.CutBlock
namespace Go.Proofs.Ytlnlcmdbhkpnhaa
open Go.RowKit
set_option linter.unusedVariables false

set_option maxHeartbeats 8000000 in
set_option maxRecDepth 100000 in
theorem deltaValues_walk (a0 : Int) (a1 : Option Addr) (len1 cap1 : Nat) (z1 : List Vl) (a2 : Int) (a3 : Option Addr) (len3 cap3 : Nat) (z3 : List Int) (a4 : Option Addr) (len4 cap4 : Nat) (z4 : List Int) (a5 : Int) (a6 : Option Addr) (len6 cap6 : Nat) (z6 : List Int) (w : World)
    (w0 : (Lit.int .i64 a0).wf = true) (w1 : IsVals w a1 len1 cap1 z1) (w2 : (Lit.int .i64 a2).wf = true) (w3 : IsRow .i64 w a3 len3 cap3 z3) (w4 : IsRow .u8 w a4 len4 cap4 z4) (w5 : (Lit.int .i64 a5).wf = true) (w6 : IsRow .u8 w a6 len6 cap6 z6) :
    Calls Try.prog 9 #[.int .i64 a0, .slice a1 len1 cap1, .int .i64 a2, .slice a3 len3 cap3, .slice a4 len4 cap4, .int .i64 a5, .slice a6 len6 cap6] w fun e w' => e = .returned (.bool true) ∧ Below w.heap.size w w' := by
  obtain ⟨ha1, ha2⟩ := bounds_i64 w0
  obtain ⟨hn1, hn2⟩ := bounds_i64 w2
  obtain ⟨hcut1, hcut2⟩ := bounds_i64 w5
  obtain ⟨os, hol, hob, hoc, -, holen⟩ := w3.i64
  obtain ⟨ys, hyl, hyb, hyc, -, hylen⟩ := w4.u8
  have hz6 : a6 = none → len6 = 0 ∧ cap6 = 0 := by have := w6.open_; exact this.2.2.1
  have hcap6 : len6 ≤ cap6 := by have := w6.open_; exact this.1
  obtain ⟨M, hMl, hMb, hMc, hMn, hlen6⟩ := w6.u8
  have Hol := Lib.hid hol; have Hob := Lib.hid hob; have Hyl := Lib.hid hyl; have Hyb := Lib.hid hyb
  have HMl := Lib.hid hMl; have HMb := Lib.hid hMb; have Hz6 := Lib.hid hz6
  clear hol hob hyl hyb hMl hMb w3 w4 w6 hMn hz6
  by_cases c0 : 100 < len6
  · go_enter Try.func9, Try.ntmps9
    go_wp2_with (go_at_call 12; refine (known_any _).mono ?_; rintro e x1 ⟨rfl, hx1⟩)
    go_ret
    exact ⟨rfl, hx1⟩
  have b1 : decide ((100 : Int) < (len6 : Int)) = false := decide_eq_false (by omega)
  obtain ⟨q, hq, hq4⟩ := modN' a0 4 (by decide)
  have Hq : Hid (a0 % 4 = (q : Int)) := Lib.hid hq
  clear hq
  obtain ⟨k, hk⟩ : ∃ k : Nat, k = q + 1 := ⟨_, rfl⟩
  have hk2 : (1 : Int) + (q : Int) = (k : Nat) := by omega
  have hk1 : 1 ≤ k := by omega
  have hk4 : k ≤ 4 := by omega
  have hs100 := allV_sizes k z1
  have hl60 := allV_length k z1
  have hok := allV_ok k z1 w1.2.2.2.2.2
  rw [w1.1] at hl60
  have hA := fun (w' : World) (h : IsVals w' a1 len1 cap1 z1) => all_any k a1 len1 cap1 z1 w' (by omega) (by omega) h
  obtain ⟨r, hr⟩ : ∃ r, r = allV k z1 := ⟨_, rfl⟩
  rw [← hr] at hs100 hl60 hA hok
  have Hs := Lib.hid hs100; have Hok := Lib.hid hok; clear hs100 hr hk hq4 hok
  go_enter Try.func9, Try.ntmps9
  go_wp2_with (go_at_call 12; refine (known_any _).mono ?_; rintro e x1 ⟨rfl, hx1⟩)
  refine (within_any _ _ _ (by omega) (by omega) ha1 ha2).mono ?_; rw [Hq.out]; rintro e x2 ⟨rfl, rfl⟩
  go_wp2_with fail
  refine (hA _ (w1.below hx1)).mono ?_
  rintro e x2 ⟨v, rfl, hf⟩
  have hx2 := bmore hx1 hf.2
  obtain ⟨aoR, nR, capR, rfl, HlR, hncR, hcR, hnR⟩ := hf.open_
  have hn60 : nR ≤ 60 := by have h := HlR.out; omega
  clear hf hA hl60 w1 hx1
  have HRE := Lib.hid (fun w' h => rdencode_any k aoR nR capR r w' hk1 hk4 HlR.out (by omega) Hs.out Hok.out h)
  have h256 := dEncB_lt k r Hs.out Hok.out
  have hBl := dEncB_le k r Hs.out (by rw [HlR.out]; exact hn60)
  obtain ⟨B, hB⟩ : ∃ B, B = dEncB k r := ⟨_, rfl⟩
  rw [← hB] at HRE h256 hBl
  have HBl := Lib.hid hBl; have H256 := Lib.hid h256; clear hBl hB h256
  go_wp2_with fail
  refine (HRE.out _ hcR).mono ?_
  rintro e x3 ⟨aoE, nE, capE, rfl, HnE0, hcapE, hcE, hzE, hx3'⟩
  have hx3 := bmore hx2 hx3'
  have HnE : Hid (nE = B.length) := Lib.hid HnE0.out.symm
  have hnE : nE ≤ 7000 := by have := HBl.out; rw [← HnE.out] at this; exact this
  clear hcR hx3' HnE0
  go_wp2_with (at_builtin; refine wpList_append_clone1 sl_u8 rfl (.tmp 46) (.tmp 47) rfl rfl rfl (hcE.alloc (Nat.le_refl _) _) hzE (fun _ _ => rfl) (by unfold maxLen; omega) (by omega) ?_)
  intro aoD capD x4 hcD hbD hown
  have hy4 : Below x3.heap.size x3 x4 := (balloc (Below.refl _ _) _).trans (hbD.mono (by simp))
  have hrD : RowX x4 x3.heap.size aoD nE capD := by
    refine ⟨B, H256.out, HnE.out.symm, ?_⟩
    have h := hown.row
    rw [range_u8c B nE HnE.out.symm] at h
    exact h.imp id fun x => ⟨x.1, own_base x.2 (by simp)⟩
  clear hown hbD hcD
  go_upto_block 0 with fail
  go_cut [19] (fun v wx => RowX wx x3.heap.size aoD nE capD ∧ Below x3.heap.size x3 wx)
  case first =>
    have hsz3 := hx3.size
    go_wp2
    go_loopw [19] (fun i wr => ∃ j : Nat, j ≤ 3 ∧ i = .int .i64 j ∧ RowX wr x3.heap.size aoD nE capD ∧ Below x3.heap.size x3 wr) (fun i _ => 3 - (intOf i).toNat)
    case atStart => exact ⟨0, by omega, rfl, hrD, hy4⟩
    case round =>
      clear hrD hy4
      obtain ⟨j, hj, rfl, hrow, hwr⟩ := hrel
      have hxx : (j < len3 ∧ j < len4 ∧ j < 3 ∧ 0 < nE) ∨ ¬ j < len3 ∨ (j < len3 ∧ ¬ j < len4) ∨ (j < len3 ∧ j < len4 ∧ ¬ j < 3) ∨ (j < len3 ∧ j < len4 ∧ j < 3 ∧ ¬ 0 < nE) := by omega
      rcases hxx with ⟨h1, h2, h3, h4⟩ | hx
      · obtain ⟨g, rfl, hg, hcg, hst⟩ := hrow.pos h4
        obtain ⟨bo, oo, rfl, hbo, hco⟩ := hoc j h1
        obtain ⟨by_, oy, rfl, hby, hcy⟩ := hyc j h2
        obtain ⟨ov, hov⟩ : ∃ av, av = os.getD j 0 := ⟨_, rfl⟩
        have hov64 : -9223372036854775808 ≤ ov ∧ ov ≤ 9223372036854775807 := by
          rw [hov, List.getD_eq_getElem?_getD, List.getElem?_eq_getElem (by rw [Hol.out]; exact h1)]
          exact Hob.out _ (List.getElem_mem _)
        obtain ⟨yv, hyv⟩ : ∃ av, av = ys.getD j 0 := ⟨_, rfl⟩
        have hyv256 : yv < 256 := by rw [hyv]; exact getD_lt Hyb.out j
        rw [i64c, ← hov] at hco
        rw [u8c, ← hyv] at hcy
        obtain ⟨m, hm, hml⟩ := modN' ov nE h4
        have Hm : Hid (ov % (nE : Int) = (m : Int)) := Lib.hid hm
        obtain ⟨old, hold256, hcold, hfr⟩ := hcg m hml
        have hwt := hwr
        have hall : Below w.heap.size w wr := bmore hx3 hwr
        have ho1 : ∀ w', Grows wr.drew w' → w'.cell? ⟨bo, oo + j, none⟩ = some (.int .i64 ov) := fun w' hg => (Grows.toDrew hg).cell ((hall.cell (by exact hbo)).trans hco)
        have ho2 : ∀ w', Grows wr.drew w' → w'.cell? ⟨by_, oy + j, none⟩ = some (.int .u8 (yv : Nat)) := fun w' hg => (Grows.toDrew hg).cell ((hall.cell (by exact hby)).trans hcy)
        have ho3 : ∀ w', Grows wr.drew w' → w'.cell? ⟨g, m, none⟩ = some (.int .u8 (old : Nat)) := fun w' hg => (Grows.toDrew hg).cell hcold
        have e1 : (j : Int) < (len3 : Int) := by omega
        have e2 : (j : Int) < (len4 : Int) := by omega
        have e3 : (0 : Int) ≤ (j : Int) := by omega
        have e4 : (m : Int) < (nE : Int) := by omega
        have e5 : (0 : Int) ≤ (m : Int) := by omega
        have e6 : (0 : Int) < (nE : Int) := by omega
        have hwv : 0 ≤ IntKind.u8.wrap (((old : Nat) : Int) + ((yv : Nat) : Int)) ∧ IntKind.u8.wrap (((old : Nat) : Int) + ((yv : Nat) : Int)) < 256 := by rw [IntKind.wrap_u8]; omega
        have Hst := Lib.hid (hst m (IntKind.u8.wrap (((old : Nat) : Int) + ((yv : Nat) : Int))) hml hwv.1 hwv.2).drew
        have hsx : Below x3.heap.size x3 (wr.setCell ⟨g, m, none⟩ (.int .u8 (IntKind.u8.wrap (((old : Nat) : Int) + ((yv : Nat) : Int))))) := hwr.setCell (by exact hg) _
        have Hsx := Lib.hid hsx.drew
        clear hsx
        clear hm hov hyv hco hcy hwv hst hrow hcg hoc hyc hwr hall hwt
        go_wp2
        refine wp_region_linH [(0, 0), (1, 0), (2, 0), (3, 0), (4, 0), (5, 0), (6, 0), (10, 0), (11, 0), (12, 0), (13, 0), (7, 1), (8, 0), (9, 0), (14, 0), (15, 0), (16, 2)] [16] (by kernel_rfl) (by kernel_rfl) (fun d _ _ _ _ h => by cases d <;> exact h) ?_
        repeat (first
          | (refine wpLinH_skip rfl rfl (fun K hK => ?_); go_simp; refine hK _ ?_; clear hK K)
          | (refine wpLinH_take (v := ?_) rfl rfl (fun w' hw' => ?_) (fun K hK => ?_); rotate_left; (go_simp; rfl); (go_simp; refine hK _ ?_; clear hK K)))
        refine wpLinH_do rfl (fun K hK => ?_); go_simp
        refine (within_any _ _ _ (by omega) (by omega) hov64.1 hov64.2).mono ?_
        rw [Hm.out]
        rintro e y1 ⟨rfl, rfl⟩
        refine hK _ _ (Grows.refl _) ?_; clear hK K
        repeat (first
          | (refine wpLinH_skip rfl rfl (fun K hK => ?_); go_simp; refine hK _ ?_; clear hK K)
          | (refine wpLinH_take (v := ?_) rfl rfl (fun w' hw' => ?_) (fun K hK => ?_); rotate_left; (go_simp; rfl); (go_simp; refine hK _ ?_; clear hK K)))
        refine wpLinH_hard rfl (fun K hK => ?_); go_simp
        refine hK _ _ ?_; clear hK K
        refine wpLinH_nil ?_
        go_wp2
        go_roundw
        case rel => exact ⟨j + 1, by omega, by go_num, Hst.out, Hsx.out⟩
        case measure => simp [intOf]; omega
      · have Hrow := Lib.hid hrow; have Hwr := Lib.hid hwr
        clear hrow hwr hoc hyc
        rcases hx with h | ⟨h1, h⟩ | ⟨h1, h2, h⟩ | ⟨h1, h2, h3, h⟩
        all_goals
          go_wp2
          go_meet
          exact ⟨Hrow.out, Hwr.out⟩
  case rest =>
    obtain ⟨hrow, hwc⟩ := hcut
    obtain ⟨D, hDl, hDb, hDc, hDn, hDcap⟩ := hrow.bytes
    have hxD : BytesX wc aoD nE := ⟨D, hDl, hDb, hDc, hDn⟩
    have hcEc := hcE.at hwc
    have hxc := bmore hx3 hwc
    obtain ⟨m, hm, hml⟩ := modN' (a5.tdiv 3) (nE + 1) (by omega)
    have Hm : Hid (a5.tdiv 3 % ((nE : Int) + 1) = (m : Int)) := Lib.hid (by rw [← hm]; rfl)
    have ht1 := (tdivk' a5 3 (by decide) ⟨hcut1, hcut2⟩).1
    have ht2 := (tdivk' a5 3 (by decide) ⟨hcut1, hcut2⟩).2
    have hmc : (m : Int) ≤ (capD : Int) := by omega
    have hmn : m ≤ nE := by omega
    clear hrow hDl hDb hDc hDn hwc hrD hy4 hcE hm hml
    go_upto_if 88 with fail
    go_cut [18] (fun v wx => ∃ mD : Nat, v = .slice aoD mD capD ∧ mD ≤ nE ∧ wx = wc)
    case first =>
      by_cases h3 : a5.tmod 3 = 1
      · have h3' : (a5.tmod 3 == 1) = true := by rw [beq_iff_eq]; exact h3
        have ht1' : -9223372036854775808 ≤ a5.tdiv 3 := ht1
        clear h3
        go_wp2_with fail
        refine (within_any (a5.tdiv 3) ((nE : Int) + 1) _ (by omega) (by omega) ht1 ht2).mono ?_
        rw [Hm.out]
        rintro e y1 ⟨rfl, rfl⟩
        go_wp2
        go_meet
        exact ⟨m, rfl, hmn, rfl⟩
      · have h3' : (a5.tmod 3 == 1) = false := by rw [beq_eq_false_iff_ne]; exact h3
        clear h3
        go_wp2
        go_meet
        exact ⟨nE, rfl, Nat.le_refl _, rfl⟩
    case rest =>
      obtain ⟨mD, rfl, hmD, rfl⟩ := hcut
      have hxD := hxD.take hmD
      go_wp2_with (at_builtin; refine wpList_append_clone1 sl_u8 rfl (.tmp 99) (.tmp 100) rfl rfl rfl (hcEc.alloc (Nat.le_refl _) _) hzE (fun _ _ => rfl) (by unfold maxLen; omega) (by omega) ?_)
      intro ao5 cap5 x5 hc5 hb5 hown
      have hy5 : Below wc.heap.size wc x5 := (balloc (Below.refl _ _) _).trans (hb5.mono (by simp))
      have Hr5 := Lib.hid (Cloned.rowB (w := wc) HnE.out.symm hown (by simp))
      have Hy5 := Lib.hid hy5
      have HMc5 := Lib.hid (hMc.at (bmore hxc hy5))
      clear hown hc5 hb5 hy5
      go_wp2_with (at_builtin; refine wpList_append_rowB rfl (.tmp 101) (.tmp 102) rfl rfl Hr5.out rfl HMl.out HMc5.out Hz6.out (by omega) Hy5.out.size ?_)
      intro ao6 cap6' x6 hr6 hb6 hs6
      have hy6 : Below wc.heap.size wc x6 := Hy5.out.trans hb6
      have hx6 := bmore hxc hy6
      have hX6 : BytesX x6 ao6 (nE + len6) := ⟨B ++ M, hr6.1, fun x hx => by
        rcases List.mem_append.1 hx with h | h
        · exact H256.out x h
        · exact HMb.out x h, hr6.cells, hr6.nil0⟩
      have hXE : BytesX x6 aoE nE := ⟨B, HnE.out.symm, H256.out, hcEc.at hy6, hzE⟩
      have hXD : BytesX x6 aoD mD := hxD.below hy6
      have hXM : BytesX x6 a6 len6 := ⟨M, HMl.out, HMb.out, hMc.at hx6, fun e => (Hz6.out e).1⟩
      have hR0 := slices4c (T := 26) (top := 8000) (c0 := capE) (c1 := capD) (c2 := cap6') (c3 := cap6) hXE hXD hX6 hXM (by omega) (by omega) (by omega) (by omega) hcapE (by omega) hr6.cap hcap6
      clear hXE hXD hX6 hXM hr6 hb6 hs6 hxD hcEc hxc hy6
      have hN0 := nums2 (w := x6.alloc (.cells #[.slice aoE nE capE, .slice aoD mD capD, .slice ao6 (nE + len6) cap6', .slice a6 len6 cap6] 26)) (T := 3) (k0 := (nR : Int)) (k1 := a2) (by omega) (by omega)
      have hR1 := hR0.below ((Below.refl _ _).alloc (Nat.le_refl _) (.cells #[.int .i64 (nR : Int), .int .i64 a2] 3))
      have hW1 : Below w.heap.size w ((x6.alloc (.cells #[.slice aoE nE capE, .slice aoD mD capD, .slice ao6 (nE + len6) cap6', .slice a6 len6 cap6] 26)).alloc (.cells #[.int .i64 (nR : Int), .int .i64 a2] 3)) := balloc (balloc hx6 _) _
      rw [show (x6.alloc (.cells #[.slice aoE nE capE, .slice aoD mD capD, .slice ao6 (nE + len6) cap6', .slice a6 len6 cap6] 26)).heap.size = x6.heap.size + 1 by simp] at hN0
      have HR1 := Lib.hid hR1; have HN0 := Lib.hid hN0; have HW1 := Lib.hid hW1
      obtain ⟨gR, hgR⟩ : ∃ g, g = x6.heap.size := ⟨_, rfl⟩
      rw [← hgR] at HR1 HN0
      clear hR0 hR1 hN0 hW1
      go_wp2
      rw [← hgR]
      clear hgR
      go_loopw [22] (fun i wr => ∃ ii : Nat, ii ≤ 4 ∧ i = .int .i64 ii ∧ RowsC wr gR 4 8000 ∧ NumsX wr (gR + 1) 2 ∧ Below w.heap.size w wr) (fun i _ => 4 - (intOf i).toNat)
      case atStart => exact ⟨0, by omega, rfl, HR1.out, HN0.out, HW1.out⟩
      case round =>
        clear HR1 HN0 HW1
        obtain ⟨i, hi, rfl, hRX, hNX, hwr⟩ := hrel
        by_cases hi4 : i < 4
        · have e1 : (i : Int) < 4 := by omega
          have e2 : (0 : Int) ≤ (i : Int) := by omega
          go_wp2
          obtain ⟨wo, rfl⟩ : ∃ wo : World, wo = wr := ⟨_, rfl⟩
          go_loopw [23] (fun j wr => ∃ jj : Nat, jj ≤ 2 ∧ j = .int .i64 jj ∧ RowsC wr gR 4 8000 ∧ NumsX wr (gR + 1) 2 ∧ Below w.heap.size w wr) (fun j _ => 2 - (intOf j).toNat)
          case atStart => exact ⟨0, by omega, rfl, hRX, hNX, hwr⟩
          case round =>
            clear hRX hNX hwr
            obtain ⟨j, hj, rfl, hRX, hNX, hwr⟩ := hrel
            by_cases hj3 : j < 2
            · have e3 : (j : Int) < 2 := by omega
              have e4 : (0 : Int) ≤ (j : Int) := by omega
              obtain ⟨aoI, nI, capI, hcI, hnI, hcapI, L, hLl, hLb, hLc, hLn⟩ := hRX i hi4
              obtain ⟨kj, hcK, hkj1, hkj2⟩ := hNX j hj3
              have f1 : ∀ w', Grows wr.drew w' → w'.cell? ⟨gR, i, none⟩ = some (.slice aoI nI capI) := fun w' hg => (Grows.toDrew hg).cell hcI
              have f2 : ∀ w', Grows wr.drew w' → w'.cell? ⟨gR + 1, j, none⟩ = some (.int .i64 kj) := fun w' hg => (Grows.toDrew hg).cell hcK
              have HLl := Lib.hid hLl; have HLb := Lib.hid hLb
              have HRX := Lib.hid hRX; have HNX := Lib.hid hNX; have Hwr := Lib.hid hwr; have HcI := Lib.hid hcI; have HcK := Lib.hid hcK; have HLc := Lib.hid hLc
              clear hLl hLb hRX hNX hwr hcI hcK hLc
              go_wp2
              refine wp_region_linH [(0, 0), (2, 0), (3, 0), (4, 0), (5, 0), (7, 0), (8, 0), (9, 0), (10, 0), (1, 1), (6, 1), (11, 1), (12, 0), (13, 0), (14, 0), (15, 0), (16, 0)] [] (by kernel_rfl) (by kernel_rfl) (fun d _ _ _ _ h => by cases d <;> exact h) ?_
              repeat (first
                | (refine wpLinH_skip rfl rfl (fun K hK => ?_); go_simp; refine hK _ ?_; clear hK K)
                | (refine wpLinH_take (v := ?_) rfl rfl (fun w' hw' => ?_) (fun K hK => ?_); rotate_left; (go_simp; rfl); (go_simp; refine hK _ ?_; clear hK K)))
              refine wpLinH_do rfl (fun K hK => ?_); go_simp; refine hK _ _ ((Grows.refl wr.drew).alloc _) ?_; clear hK K
              refine wpLinH_do rfl (fun K hK => ?_)
              refine step_append_clone1 sl_u8 rfl (.tmp 120) (.tmp 124) rfl rfl rfl (HLc.out.drew.alloc (Nat.le_refl _) _) hLn (fun _ _ => rfl) (by unfold maxLen; omega) (by omega) ?_
              intro aoA capA xA hcA hbA hclA
              have hbA2 : Below wr.heap.size wr xA := (balloc (Below.refl _ _).drew _).trans (hbA.mono (by simp))
              have hzA : aoA = none → nI = 0 := fun e => by
                rcases Nat.eq_zero_or_pos nI with h | h
                · exact h
                · obtain ⟨_, _, e2, -⟩ := hcA 0 h
                  rw [e] at e2; cases e2
              go_simp; have hcpA := hclA.cap
              refine hK _ _ (by exact hbA) ?_; clear hK K hbA hclA
              refine wpLinH_do rfl (fun K hK => ?_); go_simp
              refine (ddecode_any (k : Nat) aoA nI capA L kj _ (by omega) (by omega) HLl.out HLb.out (by omega) hcpA hcA hzA).mono ?_
              intro e x8 hg8
              obtain ⟨aoX, nX, capX, rfl, HlX, hcX, hb8⟩ := hg8.opened
              refine hK _ _ hb8 ?_; clear hK K f1 f2 hcA hzA hg8 hcpA
              have hy8 : Below wr.heap.size wr x8 := bmore hbA2 hb8
              clear hb8 hbA2
              repeat (first
                | (refine wpLinH_skip rfl rfl (fun K hK => ?_); go_simp; refine hK _ ?_; clear hK K)
                | (refine wpLinH_take (v := ?_) rfl rfl (fun w' hw' => ?_) (fun K hK => ?_); rotate_left; (go_simp; rfl); (go_simp; refine hK _ ?_; clear hK K)))
              refine wpLinH_nil ?_
              have f1 : ∀ w', Grows x8.drew w' → w'.cell? ⟨gR, i, none⟩ = some (.slice aoI nI capI) := fun w' hg => (Grows.toDrew hg).cell (Grows.cell hy8 HcI.out)
              have f2 : ∀ w', Grows x8.drew w' → w'.cell? ⟨gR + 1, j, none⟩ = some (.int .i64 kj) := fun w' hg => (Grows.toDrew hg).cell (Grows.cell hy8 HcK.out)
              have hLc8 := HLc.out.at hy8
              have Hy8 := Lib.hid hy8
              clear hy8
              go_wp2
              refine wp_region_linH [(0, 0), (1, 0), (2, 0), (3, 0), (4, 0), (5, 0), (6, 0), (7, 0), (8, 0), (9, 1), (10, 0), (11, 0), (12, 0), (13, 0), (14, 0)] [] (by kernel_rfl) (by kernel_rfl) (fun d _ _ _ _ h => by cases d <;> exact h) ?_
              repeat (first
                | (refine wpLinH_skip rfl rfl (fun K hK => ?_); go_simp; refine hK _ ?_; clear hK K)
                | (refine wpLinH_take (v := ?_) rfl rfl (fun w' hw' => ?_) (fun K hK => ?_); rotate_left; (go_simp; rfl); (go_simp; refine hK _ ?_; clear hK K)))
              refine wpLinH_do rfl (fun K hK => ?_); go_simp
              refine (rddecode_any (k : Nat) aoI nI capI L kj _ HLl.out HLb.out (by omega) hcapI hLc8.drew hLn).mono ?_
              intro e x9 hg9
              obtain ⟨aoY, nY, capY, rfl, HlY, hcY, hb9⟩ := hg9.opened
              refine hK _ _ hb9 ?_; clear hK K f1 f2 hg9 hLc8
              have hy9 : Below x8.heap.size x8 x9 := Grows.toDrew hb9
              repeat (first
                | (refine wpLinH_skip rfl rfl (fun K hK => ?_); go_simp; refine hK _ ?_; clear hK K)
                | (refine wpLinH_take (v := ?_) rfl rfl (fun w' hw' => ?_) (fun K hK => ?_); rotate_left; (go_simp; rfl); (go_simp; refine hK _ ?_; clear hK K)))
              refine wpLinH_nil ?_
              have hcX9 := hcX.at hy9
              have hlr := dDecM_len (k : Nat) L kj
              have hnX : nX ≤ 4000 := by have := HlX.out; omega
              have hnY : nY ≤ 4000 := by have := HlY.out; omega
              have Hy9 := Lib.hid (bmore Hy8.out hy9)
              clear hy9 hb9 hcX hlr
              go_wp2_with fail
              refine (same_any aoX nX capX _ aoY nY capY _ x9 HlX.out HlY.out (by omega) (by omega) hcX9 hcY).mono ?_
              rw [decide_eq_true rfl]
              rintro e x10 ⟨rfl, mm, rfl⟩
              have Hy10 := Lib.hid (below_drewN Hy9.out mm)
              clear hcX9 hcY
              go_wp2
              go_roundw
              case rel => exact ⟨j + 1, by omega, by go_num, HRX.out.below Hy10.out, HNX.out.below Hy10.out, bmore Hwr.out Hy10.out⟩
              case measure => simp [intOf]; omega
            · have HRX := Lib.hid hRX; have HNX := Lib.hid hNX; have Hwr := Lib.hid hwr
              clear hRX hNX hwr
              go_wp2
              go_roundw
              case rel => exact ⟨i + 1, by omega, by go_num, HRX.out, HNX.out, Hwr.out⟩
              case measure => simp [intOf]; omega
        · have hMr := hMc.at hwr
          have Hwr := Lib.hid hwr
          clear hRX hNX hwr
          go_wp2_with fail
          refine (ddecode_any a0 a6 len6 cap6 M a2 _ ha1 ha2 HMl.out HMb.out (by omega) hcap6 hMr (fun e => (Hz6.out e).1)).mono ?_
          intro e x8 hg8
          obtain ⟨aoX, nX, capX, rfl, -, -, hb8⟩ := hg8.opened
          have hMr8 := hMr.at hb8
          have H8 := Lib.hid (bmore Hwr.out hb8)
          clear hb8 hMr hg8
          go_wp2_with fail
          refine (rddecode_any a0 a6 len6 cap6 M a2 _ HMl.out HMb.out (by omega) hcap6 hMr8 (fun e => (Hz6.out e).1)).mono ?_
          intro e x9 hg9
          obtain ⟨aoY, nY, capY, rfl, -, -, hb9⟩ := hg9.opened
          have H9 := Lib.hid (bmore H8.out hb9)
          clear hb9 hMr8 hg9
          go_wp2
          go_ret
          exact ⟨by simp, H9.out⟩
end Go.Proofs.Ytlnlcmdbhkpnhaa
