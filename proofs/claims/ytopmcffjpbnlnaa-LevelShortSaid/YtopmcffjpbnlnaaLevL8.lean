/- Chapter 10: the law LevelShort. -/
import Derived.Test.YtopmcffjpbnlnaaLevL2
import Derived.Test.YtopmcffjpbnlnaaLevT
namespace Go.Proofs.Ytopmcffjpbnlnaa
open Go.RowKit
set_option linter.unusedVariables false

theorem own_empty (w : World) (E : TypeId) (size : Nat) : (w.alloc (.cells #[] E)).ownsRow w.heap.size E size (.slice (some ⟨w.heap.size, 0, none⟩) 0 0) 0 [] :=
  ⟨by simp, .inr ⟨w.heap.size, 0, #[], rfl, Nat.le_refl _, heap_alloc_new w _, Nat.zero_le _, Nat.zero_le _, by simp, by simp⟩⟩
theorem range_nic (l : List Nat) (n : Nat) (h : l.length = n) : (List.range n).map (nic l) = natv l := by
  refine List.ext_getElem (by simp [natv, h]) fun i h1 h2 => ?_
  have hi : i < l.length := by simpa [natv] using h2
  simp [natv, nic, hi]

set_option maxHeartbeats 8000000 in
set_option maxRecDepth 100000 in
theorem levelShort_walk (a0 : Option Addr) (len0 cap0 : Nat) (z0 : List Int) (a1 a2 a3 : Int) (w : World) (w0 : IsRow .i64 w a0 len0 cap0 z0) (w1 : (Lit.int .i64 a1).wf = true) (w2 : (Lit.int .i64 a2).wf = true) (w3 : (Lit.int .i64 a3).wf = true) :
    Calls Try.prog 3 #[.slice a0 len0 cap0, .int .i64 a1, .int .i64 a2, .int .i64 a3] w fun e w' => e = .returned (.bool true) ∧ Below w.heap.size w w' := by
  obtain ⟨ha1, ha2⟩ := bounds_i64 w1
  obtain ⟨hv1, hv2⟩ := bounds_i64 w2
  obtain ⟨hn1, hn2⟩ := bounds_i64 w3
  obtain ⟨os, hol, hob, hoc, -, holen⟩ := w0.i64
  have Hol := Lib.hid hol; have Hob := Lib.hid hob
  clear hol hob w0
  obtain ⟨q, hq, hql⟩ := modN' a1 16 (by decide)
  have Hq : Hid (a1 % 16 = (q : Int)) := Lib.hid hq
  obtain ⟨wd, hwd⟩ : ∃ wd, wd = 1 + q := ⟨_, rfl⟩
  have ew : (1 : Int) + (q : Int) = (wd : Int) := by omega
  have hw1 : 1 ≤ wd ∧ wd ≤ 16 := by omega
  obtain ⟨r, hr, hrl⟩ := modN' a3 100 (by decide)
  have Hr : Hid (a3 % 100 = (r : Int)) := Lib.hid hr
  obtain ⟨n2, hn2e⟩ : ∃ n, n = 8 + r := ⟨_, rfl⟩
  have en : (8 : Int) + (r : Int) = (n2 : Int) := by omega
  have hn8 : 8 ≤ n2 ∧ n2 ≤ 107 := by omega
  obtain ⟨P, eP, hP1, hP2, HP⟩ := two_pow wd hw1.2
  have eP1 : IntKind.i64.wrap (P : Int) = (P : Int) := IntWalk.i64_in _ (by omega)
  obtain ⟨Y, hY, hYl⟩ := modN' a2 P (by omega)
  have HY : Hid (a2 % (P : Int) = (Y : Int)) := Lib.hid hY
  clear hq hql hr hrl hwd hn2e hY
  go_enter Try.func3, Try.ntmps3
  go_wp2_with (go_at_call 10; refine (known_any _).mono ?_; rintro e x1 ⟨rfl, hx1⟩)
  refine (within_any _ _ _ (by omega) (by omega) ha1 ha2).mono ?_; rw [Hq.out]; rintro e x2 ⟨rfl, rfl⟩
  go_wp2_with fail
  refine (levels_any a0 len0 cap0 wd os _ Hol.out Hob.out (hoc.at hx1) holen hw1.2).mono ?_
  rintro e x2 ⟨l, hl300, hlt, hg⟩
  obtain ⟨aoL, n, capL, rfl, Hn, hncap, hcL, hzL, -, hx2⟩ := hg.opened
  have hx2 := bmore hx1 hx2
  have hn300 : n ≤ 300 := by rw [← Hn.out]; exact hl300
  have Hlt := Lib.hid hlt
  clear hg hl300 hlt hx1 hoc
  have hE := levE_any aoL n capL (wd : Nat) l _ Hn.out (by omega) hncap hcL (lt64_of hw1.2 Hlt.out)
  rw [show levAny l (wd : Nat) = levB wd l by unfold levAny; rw [if_neg (by omega), Int.toNat_natCast]] at hE
  have hsh := levB_short wd hw1.1 hw1.2 l.length l (Nat.le_refl _) (by rw [Hn.out]; omega)
  have hex := levB_ext wd n2 Y hw1.1 hw1.2 hn8.1 (by omega) l.length l (Nat.le_refl _) (by rw [Hn.out]; omega)
  rw [Hn.out] at hsh
  obtain ⟨B, hB⟩ : ∃ B, B = levB wd l := ⟨_, rfl⟩
  rw [← hB] at hE hsh hex
  have HE := Lib.hid hE; have Hsh := Lib.hid hsh; have Hex := Lib.hid hex
  clear hE hsh hex hB
  go_wp2_with fail
  refine HE.out.mono ?_
  intro e x3 hg
  obtain ⟨aoB, nB, capB, rfl, HnB, -, -, -, hx3⟩ := hg.opened
  have hcL3 := hcL.at hx3
  have hx3 := bmore hx2 hx3
  clear hg hcL
  obtain ⟨ng, hng⟩ : ∃ k, k = (n + 7) / 8 := ⟨_, rfl⟩
  have eg : ((n : Int) + 7) / 8 = (ng : Int) := by omega
  have hng38 : ng ≤ 38 := by omega
  have Hng := Lib.hid hng
  clear hng
  go_wp2_with fail
  refine (within_any _ _ _ (by omega) (by omega) hn1 hn2).mono ?_; rw [Hr.out]; rintro e x4 ⟨rfl, rfl⟩
  go_wp2_with (at_builtin; refine wpList_append_clone1 sl_i rfl (.tmp 34) (.tmp 35) rfl rfl rfl (hcL3.alloc (Nat.le_refl _) _) (fun e => (hzL e).1) (fun _ _ => rfl) (by unfold maxLen; omega) (by omega) ?_)
  intro aoM capM x4 hcM hbM hown
  have hx4 : Below x3.heap.size x3 x4 := (balloc (Below.refl _ _) _).trans (hbM.mono (by simp))
  have hownM : Hid (x4.ownsRow x3.heap.size 3 1 (.slice aoM n capM) n (natv (l ++ List.replicate 0 Y))) := Lib.hid (by
    rw [List.replicate_zero, List.append_nil]
    rcases hown with ⟨h0, rfl, rfl, rfl⟩ | ⟨-, h⟩
    · subst h0
      rw [show natv l = [] by rw [List.length_eq_zero_iff.1 Hn.out]; rfl]
      exact own_empty x3 3 1
    · rw [range_nic l n Hn.out] at h; exact own_base h (by simp))
  have Hx4 := Lib.hid hx4; have Hx3 := Lib.hid hx3
  clear hcM hbM hown hx4 hx3 hx2 hcL3
  go_wp2
  go_loopw [13, 14] (fun v i x => ∃ (k M : Nat) (ao : Option Addr) (cap : Nat), k ≤ n2 ∧ v = .slice ao M cap ∧ Hid (M = n + k) ∧ M ≤ 407 ∧ i = .int .i64 (k : Nat) ∧ Hid (x.ownsRow x3.heap.size 3 1 (.slice ao M cap) M (natv (l ++ List.replicate k Y))) ∧ Hid (Below x3.heap.size x3 x)) (fun _ i _ => n2 - (intOf i).toNat)
  case atStart => exact ⟨0, n, aoM, capM, Nat.zero_le _, rfl, Lib.hid rfl, by omega, rfl, hownM, Hx4⟩
  case round =>
    clear hownM Hx4
    obtain ⟨k, M, ao, cap, hk, rfl, hM, hM4, rfl, hown, hbel⟩ := hrel
    obtain ⟨y, hyy⟩ : ∃ x, x = wr := ⟨_, rfl⟩
    subst hyy
    by_cases hkn : k < n2
    · have e1 : (k : Int) < (n2 : Int) := by omega
      have hsA : x3.heap.size ≤ (y.alloc (.cells #[.int .i64 (Y : Int)] 3)).heap.size := Nat.le_trans hbel.out.size (by simp)
      have hownA := own_below hown.out ((Below.refl _ _).alloc (Nat.le_refl _) (.cells #[.int .i64 (Y : Int)] 3))
      go_wp2_with fail
      refine (within_any a2 (P : Int) _ (by omega) (by omega) hv1 hv2).mono ?_; rw [HY.out]; rintro e x5 ⟨rfl, rfl⟩
      go_wp2_with (at_builtin; refine wpList_append_all1 sl_i rfl (.tmp 42) (.tmp 48) rfl rfl hownA rfl (cells_one y 3 (.int .i64 (Y : Int))) (fun h => by cases h) (fun _ _ => rfl) (by unfold maxLen; omega) (by omega) hsA ?_)
      intro v2 y2 hown2 hgrow2
      have hy2 : Below x3.heap.size x3 y2 := (hbel.out.alloc hbel.out.size _).grown hgrow2 hsA (fun k hk => (hownA.lt k hk).1)
      have hown3 : y2.ownsRow x3.heap.size 3 1 v2 (M + 1) (natv (l ++ List.replicate (k + 1) Y)) := by
        rw [List.replicate_succ', ← List.append_assoc, natv_append]; exact hown2
      obtain ⟨ao3, cap3, rfl, -, -⟩ := own_cells hown3
      have H3 := Lib.hid hown3; have Hy2 := Lib.hid hy2
      clear hown2 hgrow2 hown3 hy2 hownA hsA hown hbel
      go_wp2
      go_roundw
      case rel => exact ⟨k + 1, M + 1, ao3, cap3, by omega, rfl, Lib.hid (by rw [hM.out]; rfl), by have := hM.out; omega, by go_num, H3, Hy2⟩
      case measure => simp [intOf]; omega
    · have e1 : ¬ (k : Int) < (n2 : Int) := by omega
      obtain rfl : k = n2 := by omega
      obtain ⟨aoG, capG, hsl, HlG, hMcap, hcG, hzG⟩ := own_nat hown.out
      simp only [Value.slice.injEq, true_and] at hsl
      obtain ⟨rfl, rfl⟩ := hsl
      have hlt64 : ∀ x ∈ l ++ List.replicate k Y, x < 18446744073709551616 := lt64_of hw1.2 (fun x hx => by
        rcases List.mem_append.1 hx with h | h
        · exact Hlt.out x h
        · rw [List.eq_of_mem_replicate h, ← HP.out]; exact hYl)
      have hEC := levE_any ao M cap (wd : Nat) (l ++ List.replicate k Y) y HlG (by omega) hMcap hcG hlt64
      have hRC := fun w' h => rlevE_any ao M cap wd (l ++ List.replicate k Y) w' HlG (by omega) h hlt64 hw1.2
      have elev : levAny (l ++ List.replicate k Y) (wd : Nat) = levB wd (l ++ List.replicate k Y) := by unfold levAny; rw [if_neg (by omega), Int.toNat_natCast]
      rw [elev] at hEC hRC
      obtain ⟨C, hC⟩ : ∃ C, C = levB wd (l ++ List.replicate k Y) := ⟨_, rfl⟩
      rw [← hC] at hEC hRC
      have Hex2 : Hid (C.length ≤ B.length + wd + 8) := Lib.hid (by rw [hC]; exact Hex.out)
      have HEC := Lib.hid hEC; have HRC := Lib.hid hRC
      have Hy := Lib.hid (bmore Hx3.out hbel.out)
      clear hEC hRC hC elev hlt64 hown hbel HlG
      go_wp2_with fail
      refine HEC.out.mono ?_
      intro e x5 hg
      obtain ⟨aoC, nC, capC, rfl, HnC, hcC, hzC, -, hx5⟩ := hg.opened
      have hcG5 := hcG.at hx5
      have hx5 := bmore Hy.out hx5
      have hnB : nB ≤ 2000 := by
        have h1 := Hsh.out
        have h2 : (n + 7) / 8 * wd ≤ 38 * 16 := Nat.mul_le_mul (by omega) hw1.2
        rw [HnB.out] at h1; omega
      obtain ⟨gw, hgw⟩ : ∃ gw, gw = ng * wd := ⟨_, rfl⟩
      have hgw6 : gw ≤ 608 := by rw [hgw]; exact Nat.mul_le_mul hng38 hw1.2
      have egw : (ng : Int) * (wd : Int) = (gw : Int) := by rw [hgw, Int.natCast_mul]
      have wgw : IntKind.i64.wrap (gw : Int) = (gw : Int) := IntWalk.i64_in _ (by omega)
      obtain ⟨q4, hq4⟩ : ∃ x, x = 4 * n := ⟨_, rfl⟩
      have e4 : 4 * (n : Int) = (q4 : Int) := by omega
      have w4 : IntKind.i64.wrap (q4 : Int) = (q4 : Int) := IntWalk.i64_in _ (by omega)
      obtain ⟨q5, hq5⟩ : ∃ x, x = gw + q4 := ⟨_, rfl⟩
      have e5 : (gw : Int) + (q4 : Int) = (q5 : Int) := by omega
      have w5 : IntKind.i64.wrap (q5 : Int) = (q5 : Int) := IntWalk.i64_in _ (by omega)
      obtain ⟨q6, hq6⟩ : ∃ x, x = q5 + 8 := ⟨_, rfl⟩
      have e6 : (q5 : Int) + 8 = (q6 : Int) := by omega
      have w6 : IntKind.i64.wrap (q6 : Int) = (q6 : Int) := IntWalk.i64_in _ (by omega)
      obtain ⟨p1, hp1⟩ : ∃ x, x = 2 * wd := ⟨_, rfl⟩
      have f1 : 2 * (wd : Int) = (p1 : Int) := by omega
      have v1 : IntKind.i64.wrap (p1 : Int) = (p1 : Int) := IntWalk.i64_in _ (by omega)
      obtain ⟨p2, hp2⟩ : ∃ x, x = nB + p1 := ⟨_, rfl⟩
      have f2 : (nB : Int) + (p1 : Int) = (p2 : Int) := by omega
      have v2 : IntKind.i64.wrap (p2 : Int) = (p2 : Int) := IntWalk.i64_in _ (by omega)
      obtain ⟨p3, hp3⟩ : ∃ x, x = p2 + 8 := ⟨_, rfl⟩
      have f3 : (p2 : Int) + 8 = (p3 : Int) := by omega
      have v3 : IntKind.i64.wrap (p3 : Int) = (p3 : Int) := IntWalk.i64_in _ (by omega)
      have hle1 : nB ≤ q6 := by
        have h1 := Hsh.out
        rw [HnB.out, ← Hng.out, ← hgw] at h1; omega
      have hle2 : nC ≤ p3 := by
        have h1 := Hex2.out
        rw [HnC.out, HnB.out] at h1; omega
      have d1 : decide (nB ≤ q6) = true := decide_eq_true hle1
      have d1' : decide ((nB : Int) ≤ (q6 : Int)) = true := decide_eq_true (by omega)
      have d2 : decide (nC ≤ p3) = true := decide_eq_true hle2
      have d2' : decide ((nC : Int) ≤ (p3 : Int)) = true := decide_eq_true (by omega)
      have hcv := conv_grown (cap := capC) HnC.out hcC.drew hzC
      have hxd := hx5.drew
      clear hg hgw hq4 hq5 hq6 hp1 hp2 hp3 hle1 hle2 hcG
      go_wp2
      refine wp_region_linH [(0, 0), (1, 0), (2, 0), (3, 0), (4, 0), (5, 0), (6, 0), (7, 0), (8, 0), (9, 0), (10, 0), (11, 0), (12, 0), (13, 0), (14, 0), (15, 0), (16, 0), (17, 0), (18, 0), (19, 0), (20, 0), (21, 0), (22, 0), (23, 0), (24, 0), (25, 0), (26, 0), (27, 1), (28, 0), (29, 0), (30, 0), (31, 0)] [] (by kernel_rfl) (by kernel_rfl) (fun d _ _ _ _ h => by cases d <;> exact h) ?_
      repeat (first
        | (refine wpLinH_skip rfl rfl (fun K hK => ?_); go_simp; refine hK _ ?_; clear hK K)
        | (refine wpLinH_take (v := ?_) rfl rfl (fun w' hw' => ?_) (fun K hK => ?_); rotate_left; (go_simp; rfl); (go_simp; refine hK _ ?_; clear hK K)))
      refine wpLinH_do rfl (fun K hK => ?_); go_simp
      refine (HRC.out _ hcG5.drew).mono ?_
      intro e x6 hg
      obtain ⟨aoE, nE, capE, rfl, HnE, hcE, hzE, -, hx6⟩ := hg.opened
      refine hK _ _ hx6 ?_; clear hK K hcv
      have hcv6 := conv_grown (cap := capE) HnE.out hcE hzE
      have hx6 := bmore hxd hx6
      clear hg hcG5 hcC
      repeat (first
        | (refine wpLinH_skip rfl rfl (fun K hK => ?_); go_simp; refine hK _ ?_; clear hK K)
        | (refine wpLinH_take (v := ?_) rfl rfl (fun w' hw' => ?_) (fun K hK => ?_); rotate_left; (go_simp; rfl); (go_simp; refine hK _ ?_; clear hK K)))
      refine wpLinH_nil ?_
      go_wp2
      go_ret
      exact ⟨by simp, hx6⟩
end Go.Proofs.Ytopmcffjpbnlnaa
