/- Chapter 12: the law DeltaInts. -/
import Derived.Test.YtlnlcmdbhkpnhaaDelM
import Derived.Test.YtlnlcmdbhkpnhaaDelRI
import Derived.Test.YtlnlcmdbhkpnhaaLinH
namespace Go.Proofs.Ytlnlcmdbhkpnhaa
open Go.RowKit
set_option linter.unusedVariables false

set_option maxHeartbeats 8000000 in
set_option maxRecDepth 100000 in
theorem deltaInts_walk (a0 : Option Addr) (len0 cap0 : Nat) (z0 : List Int) (a1 : Option Addr) (len1 cap1 : Nat) (z1 : List Int) (w : World) (w0 : IsRow .i64 w a0 len0 cap0 z0) (w1 : IsRow .u8 w a1 len1 cap1 z1) :
    Calls Try.prog 5 #[.slice a0 len0 cap0, .slice a1 len1 cap1] w fun e w' => e = .returned (.bool true) ∧ Below w.heap.size w w' := by
  obtain ⟨l, hl, hlin, hcL, hzL, hlen⟩ := w0.i64
  have hz1 : a1 = none → len1 = 0 ∧ cap1 = 0 := by have := w1.open_; exact this.2.2.1
  obtain ⟨M, hMl, hMb, hMc, -, hlen1⟩ := w1.u8
  by_cases c0 : 150 < len0
  · have b1 : (150 : Int) < (len0 : Int) := by omega
    clear hl hcL hMl hMc w0 w1
    go_enter Try.func5, Try.ntmps5
    go_wp2_with (go_at_call 12; refine (known_any _).mono ?_; rintro e x1 ⟨rfl, hx1⟩)
    go_ret
    exact ⟨rfl, hx1⟩
  have b1 : ¬ (150 : Int) < (len0 : Int) := by omega
  by_cases c1 : 50 < len1
  · have b2 : (50 : Int) < (len1 : Int) := by omega
    clear hl hcL hMl hMc w0 w1
    go_enter Try.func5, Try.ntmps5
    go_wp2_with (go_at_call 12; refine (known_any _).mono ?_; rintro e x1 ⟨rfl, hx1⟩)
    go_ret
    exact ⟨rfl, hx1⟩
  have b2 : ¬ (50 : Int) < (len1 : Int) := by omega
  have Hl := Lib.hid hl; have Hlin := Lib.hid (show ∀ x ∈ l, inI64 x from hlin); have HcL := Lib.hid hcL; have HMl := Lib.hid hMl; have HMb := Lib.hid hMb; have HMc := Lib.hid hMc; have HzL := Lib.hid hzL; have Hz1 := Lib.hid hz1
  have hM : Hid (dReadM (dIntsB l ++ M) (len0 : Nat) = (l, (dIntsB l).length, 0)) := Lib.hid (by
    have h := dReadM_back l M (by omega) hlin
    rwa [hl] at h)
  have hlt := Lib.hid (dIntsB_lt l hlin)
  have hbnd := dIntsB_bound l
  rw [hl] at hbnd
  have hbnd2 : (dIntsB l).length ≤ 2000 := by omega
  have HRI : Hid (∀ z : World, CellsAt z z.heap.size a0 len0 (i64c l) → Calls Try.prog 18 #[.slice a0 len0 cap0] z (GaveB z (dIntsB l))) := Lib.hid (fun z hz => rdInts_any a0 len0 cap0 l z Hl.out (by omega) hz Hlin.out)
  have HDI : Hid (∀ (ao : Option Addr) (cap : Nat) (z : World), CellsAt z z.heap.size ao len0 (i64c l) → Calls Try.prog 14 #[.slice ao len0 cap] z (GaveB z (dIntsB l))) := Lib.hid (fun ao cap z hz => dInts_any ao len0 cap l z Hl.out (by omega) hz Hlin.out)
  obtain ⟨bs, hbs⟩ : ∃ b, b = dIntsB l := ⟨_, rfl⟩
  rw [← hbs] at hM hlt hbnd2 HRI HDI
  clear hl hlin hcL hzL hz1 hMl hMb hMc w0 w1 hbs hbnd
  go_enter Try.func5, Try.ntmps5
  go_wp2_with fail
  refine (known_any _).mono ?_
  rintro e x1 ⟨rfl, hx1⟩
  have Hx1 := Lib.hid hx1
  have HcL1 := Lib.hid (HcL.out.at hx1)
  clear hx1
  go_wp2_with (at_builtin; refine wpList_append_clone1 sl_i64' rfl (.tmp 19) (.tmp 20) rfl rfl rfl (HcL1.out.alloc (Nat.le_refl _) _) HzL.out (fun _ _ => rfl) (by unfold maxLen; omega) (by omega) ?_)
  intro aoD capD x2 hcD hbD hown
  have Hx2 := Lib.hid (bmore Hx1.out ((balloc (Below.refl x1.heap.size x1) _).trans (hbD.mono (by simp))))
  have HcD := Lib.hid hcD
  clear hcD hbD hown
  go_wp2_with fail
  refine (HDI.out aoD capD _ HcD.out).mono ?_
  intro e x3 hg
  obtain ⟨aoB, nB, capB, rfl, HnB, hcB, hzB, -, hbB⟩ := hg.opened
  have hnB : nB ≤ 2000 := by rw [← HnB.out]; exact hbnd2
  have Hx3 := Lib.hid (bmore Hx2.out hbB)
  have HcB := Lib.hid hcB; have HzB := Lib.hid hzB
  clear hg hcB hzB hbB
  go_wp2_with (at_builtin; refine wpList_append_clone1 sl_u8 rfl (.tmp 24) (.tmp 25) rfl rfl rfl (HcB.out.alloc (Nat.le_refl _) _) HzB.out (fun _ _ => rfl) (by unfold maxLen; omega) (by omega) ?_)
  intro ao5 cap5 x5 hc5 hb5 hown
  have hy5 : Below x3.heap.size x3 x5 := (balloc (Below.refl _ _) _).trans (hb5.mono (by simp))
  have hr5 := Cloned.rowB (w := x3) HnB.out hown (by simp)
  have Hy5 := Lib.hid hy5; have Hr5 := Lib.hid hr5
  have HMc5 := Lib.hid (HMc.out.at (bmore Hx3.out hy5))
  clear hc5 hb5 hown hy5 hr5
  go_wp2_with (at_builtin; refine wpList_append_rowB rfl (.tmp 26) (.tmp 27) rfl rfl Hr5.out rfl HMl.out HMc5.out Hz1.out (by omega) Hy5.out.size ?_)
  intro ao6 cap6 x6 hr6 hb6 hs6
  have hy6 : Below x3.heap.size x3 x6 := Hy5.out.trans hb6
  have HD := Lib.hid (dRead_any ao6 (nB + len1) cap6 (bs ++ M) (len0 : Nat) x6 hr6.1 (fun x hx => by
    rcases List.mem_append.1 hx with h | h
    · exact hlt.out x h
    · exact HMb.out x h) (by omega) hr6.cap hr6.cells)
  rw [hM.out, HnB.out] at HD
  have Hx6 := Lib.hid (bmore Hx3.out hy6)
  have HcB6 := Lib.hid (HcB.out.at hy6)
  clear hr6 hb6 hs6 hy6
  go_wp2_with fail
  refine HD.out.mono ?_
  intro e x7 hg
  obtain ⟨aoX, nX, capX, rfl, HnX, hcX, hbX⟩ := hg.opened
  obtain rfl : nX = len0 := by rw [← HnX.out, ← Hl.out]
  have Hx7 := Lib.hid (bmore Hx6.out hbX)
  have hcX7 := Lib.hid hcX
  have hcv := conv_grown (cap := capB) HnB.out (HcB6.out.at hbX).drew HzB.out
  have HRI2 := Lib.hid (HRI.out x7.drew (HcL.out.at Hx7.out).drew)
  clear hg hcX hbX
  go_wp2
  refine wp_region_linH [(0, 0), (1, 0), (2, 0), (3, 1), (4, 0), (5, 0), (6, 0), (7, 0), (8, 0), (9, 0), (10, 0), (11, 0), (12, 0), (13, 0), (14, 0), (15, 0), (16, 0), (17, 0), (18, 0), (19, 1), (20, 0), (21, 0)] [] (by kernel_rfl) (by kernel_rfl) (fun d _ _ _ _ h => by cases d <;> exact h) ?_
  repeat (first
    | (refine wpLinH_skip rfl rfl (fun K hK => ?_); go_simp; refine hK _ ?_; clear hK K)
    | (refine wpLinH_take (v := ?_) rfl rfl (fun w' hw' => ?_) (fun K hK => ?_); rotate_left; (go_simp; rfl); (go_simp; refine hK _ ?_; clear hK K)))
  refine wpLinH_do rfl (fun K hK => ?_); go_simp
  refine HRI2.out.mono ?_
  intro e x8 hg
  obtain ⟨ao8, n8, cap8, rfl, Hn8, hc8, hz8, -, hx8⟩ := hg.opened
  refine hK _ _ hx8 ?_; clear hK K hcv
  have hcv8 := conv_grown (cap := cap8) Hn8.out hc8 hz8
  have Hx8 := Lib.hid (bmore Hx7.out (Grows.toDrew hx8))
  have HcX8 := Lib.hid (hcX7.out.at (Grows.toDrew hx8))
  clear hg hc8 hx8
  repeat (first
    | (refine wpLinH_skip rfl rfl (fun K hK => ?_); go_simp; refine hK _ ?_; clear hK K)
    | (refine wpLinH_take (v := ?_) rfl rfl (fun w' hw' => ?_) (fun K hK => ?_); rotate_left; (go_simp; rfl); (go_simp; refine hK _ ?_; clear hK K)))
  refine wpLinH_do rfl (fun K hK => ?_); go_simp
  refine (ints_eq aoX a0 nX capX cap0 l x8 (by omega) HcX8.out (HcL.out.at Hx8.out)).mono ?_
  rintro e x9 ⟨rfl, m, rfl⟩
  refine hK _ _ (below_drewN (Below.refl _ _) m) ?_; clear hK K hcv8
  repeat (first
    | (refine wpLinH_skip rfl rfl (fun K hK => ?_); go_simp; refine hK _ ?_; clear hK K)
    | (refine wpLinH_take (v := ?_) rfl rfl (fun w' hw' => ?_) (fun K hK => ?_); rotate_left; (go_simp; rfl); (go_simp; refine hK _ ?_; clear hK K)))
  refine wpLinH_nil ?_
  go_wp2
  go_ret
  exact ⟨rfl, below_drewN Hx8.out m⟩
end Go.Proofs.Ytlnlcmdbhkpnhaa
