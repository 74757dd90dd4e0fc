/- Chapter 13: the law DictOrder. -/
import Derived.Test.YtkolmoebopfgiaaDictK
namespace Go.Proofs.Ytkolmoebopfgiaa
open Go.RowKit
set_option linter.unusedVariables false

theorem getD_app_i (l m : List Int) (i : Nat) (h : i < l.length) : (l ++ m).getD i 0 = l.getD i 0 := by simp [List.getD_eq_getElem?_getD, List.getElem?_append_left h]
theorem dAtsFrom_app : ∀ (l m ws : List Vl), dAtsFrom ws (l ++ m) = dAtsFrom ws l ++ dAtsFrom (l.foldl dStep ws) m
  | [], m, ws => rfl
  | x :: l, m, ws => by simp only [List.cons_append, dAtsFrom, dAtsFrom_app l, List.foldl_cons]
theorem dAtsI_app (l m : List Vl) : ∃ t, dAtsI (l ++ m) = dAtsI l ++ t := by
  unfold dAtsI dAts
  rw [dAtsFrom_app, List.map_append]
  exact ⟨_, rfl⟩
theorem append_take_words (l m : List Vl) : (dWords (l ++ m)).take (dWords l).length = dWords l := by
  obtain ⟨t, h⟩ := dWords_app l m
  rw [h, List.take_left]
theorem dWords_app_le (l m : List Vl) : (dWords l).length ≤ (dWords (l ++ m)).length := by
  obtain ⟨t, h⟩ := dWords_app l m
  rw [h, List.length_append]; omega
theorem vlc_take' (l : List Vl) (k j : Nat) (h : j < k * 2) : vlc (l.take k) j = vlc l j := by
  unfold vlc vN vS
  have e : (l.take k).getD (j / 2) vl0 = l.getD (j / 2) vl0 := by simp [List.getD_eq_getElem?_getD, show j / 2 < k by omega]
  rw [e]

set_option maxHeartbeats 8000000 in
set_option maxRecDepth 100000 in
theorem dictOrder_walk (a0 : Int) (a1 : Option Addr) (len1 cap1 : Nat) (z1 : List Vl) (a2 : Option Addr) (len2 cap2 : Nat) (z2 : List Vl) (w : World) (w0 : (Lit.int .i64 a0).wf = true) (w1 : IsVals w a1 len1 cap1 z1) (w2 : IsVals w a2 len2 cap2 z2) :
    Calls Try.prog 5 #[.int .i64 a0, .slice a1 len1 cap1, .slice a2 len2 cap2] w fun e w' => e = .returned (.bool true) ∧ Below w.heap.size w w' := by
  obtain ⟨ha1, ha2⟩ := bounds_i64 w0
  obtain ⟨q, hq, hq4⟩ := modN' a0 4 (by decide)
  have Hq : Hid (a0 % 4 = (q : Int)) := Lib.hid hq
  clear hq
  obtain ⟨k, hk⟩ : ∃ k : Nat, k = q + 1 := ⟨_, rfl⟩
  have hk2 : (1 : Int) + (q : Int) = (k : Nat) := by omega
  have hk1 : 1 ≤ k := by omega
  have hk4 : k ≤ 4 := by omega
  clear hk hq4
  have hl1 := allV_length k z1
  have hl2 := allV_length k z2
  have ok1 := allV_ok k z1 w1.2.2.2.2.2
  have ok2 := allV_ok k z2 w2.2.2.2.2.2
  have hA1 := fun (w' : World) (h : IsVals w' a1 len1 cap1 z1) => all_any k a1 len1 cap1 z1 w' hk1 hk4 h
  have hA2 := fun (w' : World) (h : IsVals w' a2 len2 cap2 z2) => all_any k a2 len2 cap2 z2 w' hk1 hk4 h
  obtain ⟨r1, hr1⟩ : ∃ r, r = allV k z1 := ⟨_, rfl⟩
  obtain ⟨r2, hr2⟩ : ∃ r, r = allV k z2 := ⟨_, rfl⟩
  rw [← hr1] at hl1 ok1 hA1
  rw [← hr2] at hl2 ok2 hA2
  have Ok1 := Lib.hid ok1; have Ok2 := Lib.hid ok2
  clear hr1 hr2 ok1 ok2
  have h60 : r1.length ≤ 60 := by omega
  have h602 : r2.length ≤ 60 := by omega
  clear hl1 hl2
  have H60 := Lib.hid h60; have H602 := Lib.hid h602; clear h60 h602
  have HA1 := Lib.hid hA1; have HA2 := Lib.hid hA2; clear hA1 hA2
  go_enter Try.func5, Try.ntmps5
  go_wp2_with (go_at_call 10; refine (known_any _).mono ?_; rintro e x1 ⟨rfl, hx1⟩)
  refine (within_any _ _ _ (by omega) (by omega) ha1 ha2).mono ?_; rw [Hq.out]; rintro e x2 ⟨rfl, rfl⟩
  go_wp2_with fail
  refine (HA1.out _ (w1.below hx1)).mono ?_
  rintro e x2 ⟨v, rfl, hf⟩
  have hx2 := bmore hx1 hf.2
  obtain ⟨aoR, capR, rfl, hlR, hncR, hcR, hnR, -⟩ := own_v hf.1
  obtain ⟨n1, hn1⟩ : ∃ n, n = r1.length := ⟨_, rfl⟩
  rw [← hn1] at hncR hcR hnR ⊢
  have hn60 : n1 ≤ 60 := by rw [hn1]; exact H60.out
  have HlR : Hid (r1.length = n1) := Lib.hid hn1.symm
  clear hf hn1 hlR
  -- a copy of them, and the others behind
  go_wp2_with (at_builtin; refine wpList_append_clone sl_v rfl (.tmp 25) (.tmp 26) rfl rfl rfl (hcR.alloc (Nat.le_refl _) _) (fun e => (hnR e).1) (fun _ _ => vlc_one _ _) (by unfold maxLen; omega) (by omega) ?_)
  intro aoC capC x3 hcC hbC hownC
  have hx3 : Below w.heap.size w x3 := (balloc hx2 _).trans (hbC.mono (by have := hx2.size; simp; omega))
  have ho3 : x3.ownsRow x2.heap.size 30 2 (.slice aoC n1 capC) n1 (vcs r1) := by
    rcases hownC with ⟨h0, rfl, rfl, rfl⟩ | ⟨h0, ho⟩
    · subst h0
      have : r1 = [] := List.length_eq_zero_iff.1 HlR.out
      subst this
      exact own_empty x2 30 2
    · rw [range_vlc r1 n1 HlR.out] at ho
      exact own_base ho (by simp)
  have hx23 : Below x2.heap.size x2 x3 := (balloc (Below.refl x2.heap.size x2) (.cells #[] 30)).trans (hbC.mono (by simp))
  clear hcC hbC hownC
  go_wp2_with fail
  refine (HA2.out _ (w2.below hx3)).mono ?_
  rintro e x4 ⟨v, rfl, hf⟩
  have hx4 := bmore hx3 hf.2
  have ho4 := own_below ho3 hf.2
  have hx24 : Below x2.heap.size x2 x4 := hx23.trans (hf.2.mono hx23.size)
  obtain ⟨aoS, capS, rfl, hlS, hncS, hcS, hnS, -⟩ := own_v hf.1
  obtain ⟨n2, hn2⟩ : ∃ n, n = r2.length := ⟨_, rfl⟩
  rw [← hn2] at hncS hcS hnS ⊢
  have hn260 : n2 ≤ 60 := by rw [hn2]; exact H602.out
  have HlS : Hid (r2.length = n2) := Lib.hid hn2.symm
  clear hf hn2 hlS ho3
  go_wp2_with (at_builtin; refine wpList_append_all sl_v rfl (.tmp 27) (.tmp 30) rfl rfl ho4 rfl hcS hnS (fun _ _ => vlc_one _ _) (by unfold maxLen; omega) (by omega) hx24.size ?_)
  intro v5 x5 ho5 hg5
  have ho5' : x5.ownsRow x2.heap.size 30 2 v5 (n1 + n2) (vcs (r1 ++ r2)) := by
    rw [← vcs_app, ← range_vlc r2 n2 HlS.out]; exact ho5
  have hx25 : Below x2.heap.size x2 x5 := hx24.grown hg5 hx24.size (fun j hj => (ho4.lt j hj).1)
  have hx5 := bmore hx2 hx25
  have hcR5 := (hcR.below hx25).mono hx25.size
  obtain ⟨aoB, capB, rfl, hlB, hncB, hcB, hnB, -⟩ := own_v ho5'
  have HlB := Lib.hid hlB
  clear ho5 hg5 ho4 hx24 hcS hnS hncS hcR ho5' hlB hx23 hx3 hx4
  have hw1 : (dWords r1).length ≤ 256 := Nat.le_trans (dWords_le _) (by rw [HlR.out]; omega)
  have hw2 : (dWords (r1 ++ r2)).length ≤ 256 := Nat.le_trans (dWords_le _) (by rw [HlB.out]; omega)
  have Hw1 := Lib.hid hw1; have Hw2 := Lib.hid hw2; clear hw1 hw2
  go_wp2_with fail
  refine (build_yes k aoR n1 capR r1 256 _ HlR.out (by omega) Ok1.out hcR5 (by decide) Hw1.out).mono ?_
  rintro e x6 ⟨v6, u6, rfl, how6, hoa6, hb6⟩
  have hx6 := bmore hx5 hb6
  go_wp2_with fail
  refine (build_yes k aoB (n1 + n2) capB (r1 ++ r2) 256 _ HlB.out (by omega) (fun v hv => (List.mem_append.1 hv).elim (Ok1.out v) (Ok2.out v)) (hcB.at hb6) (by decide) Hw2.out).mono ?_
  rintro e x7 ⟨v7, u7, rfl, how7, hoa7, hb7⟩
  have hx7 := bmore hx6 hb7
  have how6' := own_below how6 hb7
  have hoa6' := own_below hoa6 hb7
  obtain ⟨aW, cW, rfl, -, hncW, hcW, hnW, -⟩ := own_v how6'
  obtain ⟨aV, cV, rfl, -, hncV, hcV, hnV, -⟩ := own_v how7
  obtain ⟨aA, cA, rfl, hcA, -⟩ := own_i64 hoa6'
  obtain ⟨aT, cT, rfl, hcT, -⟩ := own_i64 hoa7
  obtain ⟨m1, hm1⟩ : ∃ m, m = (dWords r1).length := ⟨_, rfl⟩
  obtain ⟨m2, hm2⟩ : ∃ m, m = (dWords (r1 ++ r2)).length := ⟨_, rfl⟩
  have hmle : m1 ≤ m2 := by rw [hm1, hm2]; exact dWords_app_le _ _
  have htake : (dWords (r1 ++ r2)).take m1 = dWords r1 := by rw [hm1]; exact append_take_words _ _
  have hm256 : m2 ≤ 256 := by rw [hm2]; exact Hw2.out
  rw [← hm1] at hncW hcW ⊢
  rw [← hm2] at hncV hcV ⊢
  have Hm1 : Hid ((dWords r1).length = m1) := Lib.hid hm1.symm
  have Htake := Lib.hid htake
  have hcV' : CellsAt x7 x7.heap.size aV (m1 * 2) (vlc (dWords r1)) := (hcV.take (by omega)).congr (fun i hi => by rw [← htake, vlc_take' _ _ _ hi])
  have hats : ∀ i, i < n1 → (dAtsI (r1 ++ r2)).getD i 0 = (dAtsI r1).getD i 0 := by
    intro i hi
    obtain ⟨t, ht⟩ := dAtsI_app r1 r2
    rw [ht, getD_app_i _ _ _ (by unfold dAtsI; rw [List.length_map, dAts_length, HlR.out]; exact hi)]
  have Hats := Lib.hid hats
  have hcm : (m1 : Int) ≤ cV := by omega
  clear hm1 hm2 htake hats how6 hoa6 how7 hoa7 how6' hoa6' hb6 hb7 hcB hcR5 hcV
  go_wp2_with fail
  refine (same_any aV m1 cV (dWords r1) aW m1 cW (dWords r1) _ Hm1.out Hm1.out (by omega) (by omega) hcV' hcW).mono ?_
  rw [show decide (dWords r1 = dWords r1) = true from decide_eq_true rfl]
  rintro e y ⟨rfl, m, rfl⟩
  have hy : Below w.heap.size w (x7.drewN m) := bdrewN hx7 m
  go_wp2
  go_loopw [16] (fun i wr => ∃ j d : Nat, j ≤ n1 ∧ i = .int .i64 j ∧ wr = x7.drewN d) (fun i _ => n1 - (intOf i).toNat)
  case atStart => exact ⟨0, m, Nat.zero_le _, rfl, rfl⟩
  case round =>
    obtain ⟨j, d, hj, rfl, rfl⟩ := hrel
    by_cases hlt : j < n1
    · obtain ⟨b, off, rfl, hb, c0⟩ := hcA j hlt
      obtain ⟨b', off', rfl, hb', c0'⟩ := hcT j (by omega)
      rw [i64c, Hats.out j hlt] at c0'
      rw [i64c] at c0
      obtain ⟨x, hx⟩ : ∃ x, x = (dAtsI r1).getD j 0 := ⟨_, rfl⟩
      rw [← hx] at c0 c0'
      have hlt2 : j < n1 + n2 := by omega
      clear hx hcA hcT
      go_wp2
      go_quiet (fail)
      go_wp2
      go_roundw
      case rel => exact ⟨j + 1, d + nq, by omega, by go_num, rfl⟩
      case measure => simp [intOf]; omega
    · go_wp2
      go_ret
      exact ⟨rfl, bdrewN hx7 d⟩
end Go.Proofs.Ytkolmoebopfgiaa
