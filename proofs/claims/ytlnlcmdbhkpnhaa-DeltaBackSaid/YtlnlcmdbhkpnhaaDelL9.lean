/- Chapter 12: the law DeltaBack. -/
import Derived.Test.YtlnlcmdbhkpnhaaDelVL
namespace Go.Proofs.Ytlnlcmdbhkpnhaa
open Go.RowKit
set_option linter.unusedVariables false

set_option maxHeartbeats 8000000 in
set_option maxRecDepth 100000 in
theorem deltaBack_walk (a0 : Int) (a1 : Option Addr) (len1 cap1 : Nat) (z1 : List Vl) (w : World)
    (w0 : (Lit.int .i64 a0).wf = true) (w1 : IsVals w a1 len1 cap1 z1) :
    Calls Try.prog 11 #[.int .i64 a0, .slice a1 len1 cap1] w fun e w' => e = .returned (.bool true) ∧ Below w.heap.size w w' := by
  obtain ⟨ha1, ha2⟩ := bounds_i64 w0
  obtain ⟨q, hq, hq4⟩ := modN' a0 4 (by decide)
  have Hq : Hid (a0 % 4 = (q : Int)) := Lib.hid hq
  clear hq
  obtain ⟨k, hk⟩ : ∃ k : Nat, k = q + 1 := ⟨_, rfl⟩
  have hk2 : (1 : Int) + (q : Int) = (k : Nat) := by omega
  have hk1 : 1 ≤ k := by omega
  have hk4 : k ≤ 4 := by omega
  have hs100 := allV_sizes k z1
  have hl60 := allV_length k z1
  have hok := allV_ok k z1 w1.2.2.2.2.2
  rw [w1.1] at hl60
  have hgood : ∀ v ∈ allV k z1, GoodV k v := by
    intro v hv
    obtain ⟨u, hu, rfl⟩ := List.mem_map.1 hv
    exact goodV_good k hk1 hk4 u (w1.2.2.2.2.2 u (List.mem_of_mem_take hu))
  have hA := fun (w' : World) (h : IsVals w' a1 len1 cap1 z1) => all_any k a1 len1 cap1 z1 w' (by omega) (by omega) h
  obtain ⟨r, hr⟩ : ∃ r, r = allV k z1 := ⟨_, rfl⟩
  rw [← hr] at hs100 hl60 hA hgood hok
  have Hs := Lib.hid hs100; have Hok := Lib.hid hok; have Hgood := Lib.hid hgood; clear hs100 hr hk hq4 hok hgood
  go_enter Try.func11, Try.ntmps11
  go_wp2_with (go_at_call 12; refine (known_any _).mono ?_; rintro e x1 ⟨rfl, hx1⟩)
  refine (within_any _ _ _ (by omega) (by omega) ha1 ha2).mono ?_; rw [Hq.out]; rintro e x2 ⟨rfl, rfl⟩
  go_wp2_with fail
  refine (hA _ (w1.below hx1)).mono ?_
  rintro e x2 ⟨v, rfl, hf⟩
  have hx2 := bmore hx1 hf.2
  obtain ⟨aoR, nR, capR, rfl, HlR, hncR, hcR, hnR⟩ := hf.open_
  have hn60 : nR ≤ 60 := by have h := HlR.out; omega
  clear hf hA hl60 w1 hx1
  have HE := Lib.hid (fun w' h => dencode_any k aoR nR capR r w' hk1 hk4 HlR.out (by omega) Hs.out Hok.out h)
  have HRE := Lib.hid (fun w' h => rdencode_any k aoR nR capR r w' hk1 hk4 HlR.out (by omega) Hs.out Hok.out h)
  have hdec := dDecM_back k hk1 hk4 r (by rw [HlR.out]; omega) Hgood.out Hok.out
  have h256 := dEncB_lt k r Hs.out Hok.out
  have hBl := dEncB_le k r Hs.out (by rw [HlR.out]; exact hn60)
  obtain ⟨B, hB⟩ : ∃ B, B = dEncB k r := ⟨_, rfl⟩
  rw [← hB] at HE HRE hdec h256 hBl
  rw [HlR.out] at hdec
  have HBl := Lib.hid hBl; have HD := Lib.hid hdec; have H256 := Lib.hid h256; clear hBl hB hdec h256
  go_wp2_with fail
  refine (HE.out _ hcR).mono ?_
  rintro e x3 ⟨aoE, nE, capE, rfl, HnE, hcapE, hcE, hzE, hx3'⟩
  have hx3 := bmore hx2 hx3'
  have hcR3 := hcR.at hx3'
  have hnE : nE ≤ 7000 := by have := HBl.out; rw [HnE.out] at this; exact this
  have HDec := Lib.hid (ddecode_any (k : Nat) aoE nE capE B nR x3 (by omega) (by omega) HnE.out H256.out (by omega) hcapE hcE hzE)
  rw [HD.out] at HDec
  clear hx3' hcR
  go_wp2_with fail
  refine HDec.out.mono ?_
  intro e x4 h
  obtain ⟨aoX, nX, capX, rfl, HlX, hcX, hx4⟩ := h.opened
  have hcR4 := hcR3.at hx4
  have hcE4 := hcE.at hx4
  have hx4 := bmore hx3 hx4
  have hxd := hx4.drew
  have hcv := conv_grown (cap := capE) HnE.out hcE4.drew hzE
  clear hcR3 hcE h
  simp only at HlX hcX
  go_wp2
  refine wp_region_linH [(0, 0), (1, 0), (2, 0), (3, 0), (4, 1), (5, 0), (6, 0), (7, 0), (8, 0), (9, 0), (10, 0), (11, 0), (12, 0), (13, 0), (14, 1), (15, 0), (16, 0)] [] (by kernel_rfl) (by kernel_rfl) (fun d _ _ _ _ h => by cases d <;> exact h) ?_
  repeat (first
    | (refine wpLinH_skip rfl rfl (fun K hK => ?_); go_simp; refine hK _ ?_; clear hK K)
    | (refine wpLinH_take (v := ?_) rfl rfl (fun w' hw' => ?_) (fun K hK => ?_); rotate_left; (go_simp; rfl); (go_simp; refine hK _ ?_; clear hK K)))
  refine wpLinH_do rfl (fun K hK => ?_); go_simp
  refine (HRE.out _ hcR4.drew).mono ?_
  rintro e x5 ⟨ao5, n5, cap5, rfl, Hn5, -, hc5, hz5, hx5'⟩
  refine hK _ _ hx5' ?_; clear hK K hcv
  have hx5 := bmore hxd hx5'
  have hcv5 := conv_grown (cap := cap5) Hn5.out hc5 hz5
  have hcR5 := hcR4.drew.at hx5'
  have hcX5 := hcX.drew.at hx5'
  clear hcR4 hcE4 hcX hc5 hx5'
  repeat (first
    | (refine wpLinH_skip rfl rfl (fun K hK => ?_); go_simp; refine hK _ ?_; clear hK K)
    | (refine wpLinH_take (v := ?_) rfl rfl (fun w' hw' => ?_) (fun K hK => ?_); rotate_left; (go_simp; rfl); (go_simp; refine hK _ ?_; clear hK K)))
  refine wpLinH_do rfl (fun K hK => ?_); go_simp
  refine (same_any aoX nX capX r aoR nR capR r x5 HlX.out HlR.out (by have := HlX.out; have := HlR.out; omega) (by omega) hcX5 hcR5).mono ?_
  rw [decide_eq_true rfl]
  rintro e x6 ⟨rfl, m, rfl⟩
  refine hK _ _ (below_drewN (Below.refl _ _) m) ?_; clear hK K hcv5
  repeat (first
    | (refine wpLinH_skip rfl rfl (fun K hK => ?_); go_simp; refine hK _ ?_; clear hK K)
    | (refine wpLinH_take (v := ?_) rfl rfl (fun w' hw' => ?_) (fun K hK => ?_); rotate_left; (go_simp; rfl); (go_simp; refine hK _ ?_; clear hK K)))
  refine wpLinH_nil ?_
  go_wp2
  go_ret
  exact ⟨rfl, below_drewN hx5 m⟩
end Go.Proofs.Ytlnlcmdbhkpnhaa
