/- Chapter 13: the law DictReads. -/
import Derived.Test.YtkolmoebopfgiaaDictD
import Derived.Test.YtkolmoebopfgiaaDictK
import Derived.Deep.CutBlock
namespace Go.Proofs.Ytkolmoebopfgiaa
open Go.RowKit
set_option linter.unusedVariables false

theorem dDec_len (b : List Nat) (n : Int) (ws : List Vl) : (dDec b n ws).1.length ≤ 4000 := by
  unfold dDec
  split
  · simp
  split
  · simp
  split
  · rw [List.length_map]; exact levDec_len _ _ _
  · simp

set_option maxHeartbeats 8000000 in
set_option maxRecDepth 100000 in
theorem dictReads_walk (a0 : Option Addr) (len0 cap0 : Nat) (z0 : List Int) (a1 : Int) (a2 : Option Addr) (len2 cap2 : Nat) (z2 : List Vl) (a3 : Int) (w : World) (w0 : IsRow .u8 w a0 len0 cap0 z0) (w1 : (Lit.int .i64 a1).wf = true) (w2 : IsVals w a2 len2 cap2 z2) (w3 : (Lit.int .i64 a3).wf = true) :
    Calls Try.prog 6 #[.slice a0 len0 cap0, .int .i64 a1, .slice a2 len2 cap2, .int .i64 a3] w fun e w' => e = .returned (.bool true) ∧ Below w.heap.size w w' := by
  obtain ⟨hn1, hn2⟩ := bounds_i64 w1
  obtain ⟨hm1, hm2⟩ := bounds_i64 w3
  have hz6 : a0 = none → len0 = 0 ∧ cap0 = 0 := by have := w0.open_; exact this.2.2.1
  have hcap6 : len0 ≤ cap0 := by have := w0.open_; exact this.1
  obtain ⟨L, hLl, hLb, hLc, -, hlen0⟩ := w0.u8
  have HLl := Lib.hid hLl; have HLb := Lib.hid hLb; have Hz6 := Lib.hid hz6; have HLc0 := Lib.hid hLc
  clear hLl hLb w0 hz6 hLc
  by_cases c0 : 100 < len0
  · have b0 : decide ((100 : Int) < (len0 : Int)) = true := decide_eq_true (by omega)
    go_enter Try.func6, Try.ntmps6
    go_wp2_with (go_at_call 10; refine (known_any _).mono ?_; rintro e x1 ⟨rfl, hx1⟩)
    go_ret
    exact ⟨rfl, hx1⟩
  have b0 : decide ((100 : Int) < (len0 : Int)) = false := decide_eq_false (by omega)
  by_cases c1 : 60 < len2
  · have b1 : decide ((60 : Int) < (len2 : Int)) = true := decide_eq_true (by omega)
    go_enter Try.func6, Try.ntmps6
    go_wp2_with (go_at_call 10; refine (known_any _).mono ?_; rintro e x1 ⟨rfl, hx1⟩)
    go_ret
    exact ⟨rfl, hx1⟩
  have b1 : decide ((60 : Int) < (len2 : Int)) = false := decide_eq_false (by omega)
  have hl60 := allV_length 4 z2
  rw [w2.1] at hl60
  have hA := fun (w' : World) (h : IsVals w' a2 len2 cap2 z2) => all_any 4 a2 len2 cap2 z2 w' (by decide) (by decide) h
  obtain ⟨r, hr⟩ : ∃ r, r = allV 4 z2 := ⟨_, rfl⟩
  rw [← hr] at hl60 hA
  have HA := Lib.hid hA; have Hl60 := Lib.hid hl60
  obtain ⟨q5, hq5, hq5l⟩ := modN' a3 5 (by decide)
  have Hq5 : Hid (a3 % 5 = (q5 : Int)) := Lib.hid hq5
  obtain ⟨q6, hq6, hq6l⟩ := modN' (a3.tdiv 5) 6 (by decide)
  have Hq6 : Hid (a3.tdiv 5 % 6 = (q6 : Int)) := Lib.hid (by rw [← hq6]; rfl)
  have ht1 := (tdivk' a3 5 (by decide) ⟨hm1, hm2⟩).1
  have ht2 := (tdivk' a3 5 (by decide) ⟨hm1, hm2⟩).2
  have ht1' : -9223372036854775808 ≤ a3.tdiv 5 := ht1
  obtain ⟨q40, hq40, hq40l⟩ := modN' a1 40 (by decide)
  have Hq40 : Hid (a1 % 40 = (q40 : Int)) := Lib.hid hq40
  obtain ⟨i0, hi, hz0, hz1, hz2⟩ := info_parts Try.infoV
  clear hr hl60 hA hq5 hq6 hq40
  go_enter Try.func6, Try.ntmps6
  go_wp2_with (go_at_call 10; refine (known_any _).mono ?_; rintro e x1 ⟨rfl, hx1⟩)
  refine (HA.out _ (w2.below hx1)).mono ?_
  rintro e x2 ⟨v, rfl, hf⟩
  have hx2 := bmore hx1 hf.2
  obtain ⟨aoR, capR, rfl, hlR, hncR, hcR, hnR, -⟩ := own_v hf.1
  obtain ⟨nR, hn⟩ : ∃ n, n = r.length := ⟨_, rfl⟩
  rw [← hn] at hcR ⊢
  have hnR60 : nR ≤ 60 := by rw [hn]; have := Hl60.out; omega
  have HlR : Hid (r.length = nR) := Lib.hid hn.symm
  clear hf hn hlR w2 hncR hnR hx1
  go_wp2_with fail
  refine (within_any a3 5 _ (by omega) (by omega) hm1 hm2).mono ?_; rw [Hq5.out]; rintro e x3 ⟨rfl, rfl⟩
  go_upto_if 30 with fail
  go_cut [9] (fun v wx => ∃ (ws : List Vl) (m : Nat) (ao : Option Addr) (cap : Nat), v = .slice ao m cap ∧ Hid (ws.length = m) ∧ m ≤ 259 ∧ Hid (CellsAt wx wx.heap.size ao (m * 2) (vlc ws)) ∧ Hid (Below w.heap.size w wx))
  case first =>
    by_cases h5 : q5 = 0
    · subst h5
      go_wp2_with fail
      refine (within_any (a3.tdiv 5) 6 _ (by omega) (by omega) ht1 ht2).mono ?_; rw [Hq6.out]; rintro e x3 ⟨rfl, rfl⟩
      obtain ⟨m, hm⟩ : ∃ m, m = 254 + q6 := ⟨_, rfl⟩
      have em : (254 : Int) + (q6 : Int) = (m : Int) := by omega
      have hm259 : m ≤ 259 := by omega
      clear hm
      go_wp2_with (at_make; refine wpList_make_g _ rfl _ _ 22 rfl x2.heap.size 30 i0 (.agg #[.int .i64 0, .string ByteArray.empty]) 2 Try.underlying22 hi hz0 hz1 _ _ m rfl rfl (by rw [hz2]; omega) (by unfold maxLen; omega) (Nat.le_refl _) ?_)
      intro x3 hown0 hgrow0
      have hb0 : Below x2.heap.size x2 x3 := (Below.refl _ _).grown hgrow0 (Nat.le_refl _) (fun k h => by cases h)
      have hown1 : x3.ownsRow x2.heap.size 30 2 (.slice (some ⟨x2.heap.size, 0, none⟩) m m) m (vcs (List.replicate m vl0)) := by
        rw [← madeV]; exact hown0
      obtain ⟨aoW, capW, hsl, -, -, hcW, -, -⟩ := own_v hown1
      simp only [Value.slice.injEq, true_and] at hsl
      obtain ⟨rfl, rfl⟩ := hsl
      have HcW := Lib.hid hcW; have Hx3 := Lib.hid (bmore hx2 hb0)
      clear hown0 hgrow0 hb0 hown1 hcW hcR
      go_wp2
      go_meet
      exact ⟨List.replicate m vl0, m, _, _, rfl, Lib.hid (List.length_replicate ..), hm259, HcW, Hx3⟩
    · have b5 : ((q5 : Int) == 0) = false := by rw [beq_eq_false_iff_ne]; omega
      have HcR := Lib.hid hcR; have Hx2 := Lib.hid hx2
      clear hcR h5
      go_wp2
      go_meet
      exact ⟨r, nR, _, _, rfl, HlR, by omega, HcR, Hx2⟩
  case rest =>
    obtain ⟨ws, m, aoW, capW, rfl, Hm, hm259, HcW, Hwc⟩ := hcut
    clear hcR hx2
    go_wp2_with fail
    refine (within_any a1 40 _ (by omega) (by omega) hn1 hn2).mono ?_; rw [Hq40.out]; rintro e x3 ⟨rfl, rfl⟩
    have hN0 := nums3 (w := wc) (T := 3) (k0 := a1) (k1 := (q40 : Int)) (k2 := (m : Int)) ⟨hn1, hn2⟩ (by omega) (by omega)
    have hx0 := Lib.hid (balloc Hwc.out (.cells #[.int .i64 a1, .int .i64 (q40 : Int), .int .i64 (m : Int)] 3))
    have hcW0 := Lib.hid (HcW.out.alloc (Nat.le_refl _) (.cells #[.int .i64 a1, .int .i64 (q40 : Int), .int .i64 (m : Int)] 3))
    have HN0 := Lib.hid hN0
    obtain ⟨gK, hgK⟩ : ∃ g, g = wc.heap.size := ⟨_, rfl⟩
    rw [← hgK] at HN0
    obtain ⟨X0, hX0⟩ : ∃ X, X = wc.alloc (.cells #[.int .i64 a1, .int .i64 (q40 : Int), .int .i64 (m : Int)] 3) := ⟨_, rfl⟩
    rw [← hX0] at HN0 hx0 hcW0
    have hcW1 : Hid (CellsAt X0 X0.heap.size aoW (m * 2) (vlc ws)) := Lib.hid (hcW0.out.mono (by rw [hX0]; simp))
    clear hN0
    go_wp2
    rw [← hX0, ← hgK]
    clear hgK hX0 hcW0 HcW
    go_loopw [11] (fun i wr => ∃ ii : Nat, ii ≤ 3 ∧ i = .int .i64 ii ∧ Hid (Below X0.heap.size X0 wr)) (fun i _ => 3 - (intOf i).toNat)
    case atStart => exact ⟨0, by omega, rfl, Lib.hid (Below.refl _ _)⟩
    case round =>
      obtain ⟨i, hi3, rfl, Hwr⟩ := hrel
      obtain ⟨y, hyy⟩ : ∃ x, x = wr := ⟨_, rfl⟩
      subst hyy
      by_cases hi4 : i < 3
      · have e1 : (i : Int) < 3 := by omega
        have e2 : (0 : Int) ≤ (i : Int) := by omega
        obtain ⟨kj, hcK, hkj1, hkj2⟩ := HN0.out.below Hwr.out i hi4
        have f1 : ∀ w', Grows y.drew w' → w'.cell? ⟨gK, i, none⟩ = some (.int .i64 kj) := fun w' hg => (Grows.toDrew hg).cell hcK
        have HLc := Lib.hid ((HLc0.out.at hx0.out).at Hwr.out)
        have HWc := Lib.hid (hcW1.out.at Hwr.out)
        have HcK := Lib.hid hcK
        clear hcK
        go_wp2
        refine wp_region_linH [(1, 0), (3, 0), (4, 0), (5, 0), (6, 0), (7, 0), (0, 1), (2, 1), (8, 1), (9, 0), (10, 0), (11, 0), (12, 0), (13, 0)] [] (by kernel_rfl) (by kernel_rfl) (fun d _ _ _ _ h => by cases d <;> exact h) ?_
        repeat (first
          | (refine wpLinH_skip rfl rfl (fun K hK => ?_); go_simp; refine hK _ ?_; clear hK K)
          | (refine wpLinH_take (v := ?_) rfl rfl (fun w' hw' => ?_) (fun K hK => ?_); rotate_left; (go_simp; rfl); (go_simp; refine hK _ ?_; clear hK K)))
        refine wpLinH_do rfl (fun K hK => ?_); go_simp; refine hK _ _ ((Grows.refl y.drew).alloc _) ?_; clear hK K
        refine wpLinH_do rfl (fun K hK => ?_)
        refine step_append_clone1 sl_u8 rfl (.tmp 47) (.tmp 48) rfl rfl rfl (HLc.out.drew.alloc (Nat.le_refl _) _) (fun e => (Hz6.out e).1) (fun _ _ => rfl) (by unfold maxLen; omega) (by omega) ?_
        intro aoA capA xA hcA hbA hclA
        have hbA2 : Below y.heap.size y xA := (balloc (Below.refl _ _).drew _).trans (hbA.mono (by simp))
        have hzA : aoA = none → len0 = 0 := fun e => by
          rcases Nat.eq_zero_or_pos len0 with h | h
          · exact h
          · obtain ⟨_, _, e2, -⟩ := hcA 0 h
            rw [e] at e2; cases e2
        have hcpA := hclA.cap
        go_simp; refine hK _ _ (by exact hbA) ?_; clear hK K hbA hclA
        refine wpLinH_do rfl (fun K hK => ?_); go_simp
        refine (dDecode_any aoA len0 capA kj aoW m capW L ws _ HLl.out hcA hzA hcpA HLb.out (by omega) Hm.out (by omega) (HWc.out.at hbA2)).mono ?_
        intro e x8 hg8
        obtain ⟨aoX, nX, capX, rfl, HlX, -, hcX, hb8⟩ := hg8.opened
        refine hK _ _ hb8 ?_; clear hK K f1 hcA hzA hg8 hcpA
        have hy8 : Below y.heap.size y x8 := bmore hbA2 hb8
        clear hb8 hbA2
        repeat (first
          | (refine wpLinH_skip rfl rfl (fun K hK => ?_); go_simp; refine hK _ ?_; clear hK K)
          | (refine wpLinH_take (v := ?_) rfl rfl (fun w' hw' => ?_) (fun K hK => ?_); rotate_left; (go_simp; rfl); (go_simp; refine hK _ ?_; clear hK K)))
        refine wpLinH_nil ?_
        have c1 := Grows.cell hy8 HcK.out
        have hLc8 := HLc.out.at hy8
        have hWc8 := HWc.out.at hy8
        have Hy8 := Lib.hid hy8
        clear hy8
        go_wp2_with fail
        refine (rdDecode_any a0 len0 cap0 kj aoW m capW L ws _ HLl.out hLc8 (fun e => (Hz6.out e).1) HLb.out (by omega) Hm.out (by omega) hWc8).mono ?_
        intro e x9 hg9
        obtain ⟨aoY, nY, capY, rfl, HlY, -, hcY, hb9⟩ := hg9.opened
        have hcX9 := hcX.at hb9
        have hlr := dDec_len L kj ws
        have hnX : nX ≤ 4000 := by have := HlX.out; omega
        have hnY : nY ≤ 4000 := by have := HlY.out; omega
        have Hy9 := Lib.hid (bmore Hy8.out hb9)
        clear hb9 hcX hlr hg9 hLc8 hWc8 c1
        go_wp2_with fail
        refine (same_any aoX nX capX _ aoY nY capY _ x9 HlX.out HlY.out (by omega) (by omega) hcX9 hcY).mono ?_
        rw [decide_eq_true rfl]
        rintro e x10 ⟨rfl, mm, rfl⟩
        have Hy10 := Lib.hid (bmore Hwr.out (below_drewN Hy9.out mm))
        clear hcX9 hcY
        go_wp2
        go_roundw
        case rel => exact ⟨i + 1, by omega, by go_num, Hy10⟩
        case measure => simp [intOf]; omega
      · have hfin := Lib.hid (bmore hx0.out Hwr.out)
        go_wp2
        go_ret
        exact ⟨rfl, hfin.out⟩
end Go.Proofs.Ytkolmoebopfgiaa
