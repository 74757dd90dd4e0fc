/- Chapter 13: the law DictNumbers. -/
import Derived.Test.YtkolmoebopfgiaaDictD
import Derived.Test.YtkolmoebopfgiaaDictK
namespace Go.Proofs.Ytkolmoebopfgiaa
open Go.RowKit
set_option linter.unusedVariables false

theorem vgetM_one (x : Nat) (t : List Nat) (h : x < 128) : vgetM (x :: t) = (x, 1, 0) := by
  unfold vgetM vgetR
  rw [if_neg (by omega), if_pos h, if_neg (by omega)]
  simp
/-- A run of one. -/
theorem levDec_one (k T : Nat) (h1 : 1 ≤ T) (h8 : T ≤ 8) (hk : k < 2 ^ T) : levDec [2, k] 1 T = ([k], 0) := by
  have h := levDec_in [2, k] 1 T (by decide) (by omega)
  rw [if_neg (by omega)] at h
  have hrow : decRow T 1 [2, k] [] = ([], [k], 0) := by
    unfold decRow
    rw [vgetM_one 2 [k] (by decide), if_neg (by simp), if_pos (by rfl)]
    show decRun T 1 [k] [] 1 = _
    have h7 : (T + 7) / 8 = 1 := by omega
    unfold decRun
    rw [h7, if_neg (by simp), if_neg (by simp), if_neg]
    · simp [numB]
    · simp [numB, Nat.div_eq_of_lt hk]
  have h2 := decL_go T 1 [2, k] [] (by decide) (by rw [hrow])
  rw [hrow] at h2
  have h3 : decL T 1 (1 + 1) [2, k] [] = ([k], 0) := by
    have h4 := decL_done T 1 0 [] [k] (by simp)
    simp only [List.length_nil, List.length_cons, Nat.sub_self, Nat.sub_zero, Nat.zero_add] at h2 h4
    rw [h2, h4]; rfl
  rw [h3] at h
  exact h
theorem rep_getD (n k : Nat) (v : Vl) : (List.replicate n v).getD k v = v := by
  rw [List.getD_eq_getElem?_getD, List.getElem?_replicate]; split <;> rfl
theorem dDec_one (n k T : Nat) (hn : 3 ≤ n ∧ n ≤ 62) (hT : T = dWide n) (hk : k < 2 ^ T) : dDec [2, k] 1 (List.replicate n vl0) = if k < n then ([vl0], 0) else ([], 10) := by
  have h8 := dWide_le n (by omega)
  have h1 : 1 ≤ dWide n := by
    unfold dWide
    rw [bitLen_half (n - 1) (by omega)]; omega
  subst hT
  unfold dDec
  rw [List.length_replicate, if_neg (by omega), levDec_one k (dWide n) h1 h8 hk, if_neg (by simp)]
  simp only [List.all_cons, List.all_nil, Bool.and_true, decide_eq_true_eq, List.map_cons, List.map_nil]
  rw [rep_getD]
/-- The loops' numbers. -/
theorem pow_step (n t : Nat) (hn : 3 ≤ n) (h : 2 ^ t < n) : t < dWide n := by
  have h1 : n - 1 < 2 ^ dWide n := bitLen_lt (n - 1)
  rcases Nat.lt_or_ge t (dWide n) with h2 | h2
  · exact h2
  · have : 2 ^ dWide n ≤ 2 ^ t := Nat.pow_le_pow_right (by decide) h2
    omega
theorem pow_end (n t : Nat) (hn : 3 ≤ n) (ht : t ≤ dWide n) (h : ¬ 2 ^ t < n) : t = dWide n := by
  rcases Nat.lt_or_ge t (dWide n) with h2 | h2
  · have h1 : 2 ^ (dWide n - 1) ≤ n - 1 := bitLen_ge (n - 1) (by omega)
    have : 2 ^ t ≤ 2 ^ (dWide n - 1) := Nat.pow_le_pow_right (by decide) (by omega)
    omega
  · omega
theorem dWide62 (n : Nat) (h : n ≤ 62) : dWide n ≤ 6 := bitLen_le_of_lt _ 6 (by omega)

set_option maxHeartbeats 8000000 in
set_option maxRecDepth 100000 in
theorem dictNumbers_walk (a0 a1 : Int) (w : World) (w0 : (Lit.int .i64 a0).wf = true) (w1 : (Lit.int .i64 a1).wf = true) :
    Calls Try.prog 7 #[.int .i64 a0, .int .i64 a1] w fun e w' => e = .returned (.bool true) ∧ Below w.heap.size w w' := by
  obtain ⟨ha1, ha2⟩ := bounds_i64 w0
  obtain ⟨hb1, hb2⟩ := bounds_i64 w1
  obtain ⟨q, hq, hql⟩ := modN' a0 60 (by decide)
  have Hq : Hid (a0 % 60 = (q : Int)) := Lib.hid hq
  obtain ⟨n, hn⟩ : ∃ n, n = 3 + q := ⟨_, rfl⟩
  have en : (3 : Int) + (q : Int) = (n : Int) := by omega
  have hn3 : 3 ≤ n ∧ n ≤ 62 := by omega
  obtain ⟨n2, hn2⟩ : ∃ n2, n2 = 2 * n := ⟨_, rfl⟩
  have en2 : 2 * (n : Int) = (n2 : Int) := by omega
  have hn2b : 6 ≤ n2 ∧ n2 ≤ 124 := by omega
  obtain ⟨k, hk, hkl⟩ := modN' a1 n2 (by omega)
  have Hk : Hid (a1 % (n2 : Int) = (k : Int)) := Lib.hid hk
  have hk124 : k < 124 := by omega
  have wk : IntKind.u8.wrap (k : Int) = (k : Int) := by rw [IntKind.wrap_u8]; omega
  obtain ⟨T, hT⟩ : ∃ T, T = dWide n := ⟨_, rfl⟩
  have hT6 : T ≤ 6 := by rw [hT]; exact dWide62 n hn3.2
  have HT := Lib.hid hT
  obtain ⟨i0, hi, hz0, hz1, hz2⟩ := info_parts Try.infoV
  clear hq hql hn hn2 hk hkl hT
  go_enter Try.func7, Try.ntmps7
  go_wp2_with (go_at_call 10; refine (known_any _).mono ?_; rintro e x1 ⟨rfl, hx1⟩)
  refine (within_any _ _ _ (by omega) (by omega) ha1 ha2).mono ?_; rw [Hq.out]; rintro e x2 ⟨rfl, rfl⟩
  go_wp2_with (at_make; refine wpList_make_g _ rfl _ _ 22 rfl x1.heap.size 30 i0 (.agg #[.int .i64 0, .string ByteArray.empty]) 2 Try.underlying22 hi hz0 hz1 _ _ n rfl rfl (by rw [hz2]; omega) (by unfold maxLen; omega) (Nat.le_refl _) ?_)
  intro x2 hown0 hgrow0
  have hb0 : Below x1.heap.size x1 x2 := (Below.refl _ _).grown hgrow0 (Nat.le_refl _) (fun k h => by cases h)
  have hown1 : x2.ownsRow x1.heap.size 30 2 (.slice (some ⟨x1.heap.size, 0, none⟩) n n) n (vcs (List.replicate n vl0)) := by
    rw [← madeV]; exact hown0
  obtain ⟨aoW, capW, hsl, -, -, hcW, -, -⟩ := own_v hown1
  simp only [Value.slice.injEq, true_and] at hsl
  obtain ⟨rfl, rfl⟩ := hsl
  have Hx2 := Lib.hid (bmore hx1 hb0)
  have HcW := Lib.hid hcW
  clear hown0 hgrow0 hb0 hown1 hcW hx1
  go_wp2_with fail
  refine (within_any a1 (n2 : Int) _ (by omega) (by omega) hb1 hb2).mono ?_; rw [Hk.out]; rintro e x3 ⟨rfl, rfl⟩
  go_wp2
  go_loop [7] (fun v => ∃ t p : Nat, v = .int .i64 (p : Nat) ∧ t ≤ T ∧ p ≤ 64 ∧ Hid (p = 2 ^ t)) (fun v => 128 - (intOf v).toNat)
  case atStart => exact ⟨0, 1, rfl, Nat.zero_le _, by decide, Lib.hid rfl⟩
  case round =>
    obtain ⟨t, p, rfl, htT, hp, hpt⟩ := hrel
    by_cases hpn : p < n
    · have e1 : (p : Int) < (n : Int) := by omega
      have htT2 : t + 1 ≤ T := by rw [HT.out]; exact pow_step n t hn3.1 (by rw [← hpt.out]; exact hpn)
      obtain ⟨p2, hp2⟩ : ∃ p2, p2 = 2 * p := ⟨_, rfl⟩
      have ep2 : 2 * (p : Int) = (p2 : Int) := by omega
      have hp64 : p2 ≤ 64 := by
        have h1 : p2 = 2 ^ (t + 1) := by rw [hp2, hpt.out, Nat.pow_succ, Nat.mul_comm]
        have h2 : 2 ^ (t + 1) ≤ 2 ^ 6 := Nat.pow_le_pow_right (by decide) (by omega)
        omega
      have hpt2 : Hid (p2 = 2 ^ (t + 1)) := Lib.hid (by rw [hp2, hpt.out, Nat.pow_succ, Nat.mul_comm])
      have hlt : p < p2 := by
        have : 0 < p := by rw [hpt.out]; exact Nat.two_pow_pos t
        omega
      clear hp2
      go_wp2
      go_round
      case rel => exact ⟨t + 1, p2, rfl, htT2, hp64, hpt2⟩
      case measure => simp [intOf]; omega
    · have e1 : ¬ (p : Int) < (n : Int) := by omega
      have htE : t = T := by rw [HT.out]; exact pow_end n t hn3.1 (by rw [← HT.out]; exact htT) (by rw [← hpt.out]; exact hpn)
      have hpT : Hid (p = 2 ^ T) := Lib.hid (by rw [← htE]; exact hpt.out)
      clear htE hpt
      by_cases hkp : p ≤ k
      · have e2 : (p : Int) ≤ (k : Int) := by omega
        go_wp2
        go_ret
        exact ⟨rfl, Hx2.out⟩
      · have e2 : ¬ (p : Int) ≤ (k : Int) := by omega
        have hD := dDec_one n k T hn3 HT.out (by rw [← hpT.out]; omega)
        have HD := Lib.hid hD
        clear hD
        go_wp2
        go_loop [8] (fun v => ∃ u : Nat, v = .int .i64 (u : Nat) ∧ u ≤ T) (fun v => T - (intOf v).toNat)
        case atStart => exact ⟨0, rfl, Nat.zero_le _⟩
        case round =>
          obtain ⟨u, rfl, huT⟩ := hrel
          obtain ⟨P, eP, hP1, hP2, HP⟩ := two_pow u (by omega)
          have eP1 : IntKind.i64.wrap (P : Int) = (P : Int) := IntWalk.i64_in _ (by omega)
          by_cases hPn : P < n
          · have e3 : (P : Int) < (n : Int) := by omega
            have hu2 : u < T := by rw [HT.out]; exact pow_step n u hn3.1 (by rw [← HP.out]; exact hPn)
            go_wp2
            go_round
            case rel => exact ⟨u + 1, by go_num, hu2⟩
            case measure => simp [intOf]; omega
          · have e3 : ¬ (P : Int) < (n : Int) := by omega
            have hc2 : CellsAt (x2.alloc (.cells #[.int .u8 2, .int .u8 (k : Int)] 5)) (x2.alloc (.cells #[.int .u8 2, .int .u8 (k : Int)] 5)).heap.size (some ⟨x2.heap.size, 0, none⟩) 2 (u8c [2, k]) :=
              cells_alloc _ _ _ 2 (u8c [2, k]) (fun i hi => by match i, hi with | 0, _ => rfl | 1, _ => rfl)
            have hcW2 := HcW.out.alloc (Nat.le_refl _) (.cells #[.int .u8 2, .int .u8 (k : Int)] 5)
            have hdd := dDecode_any (some ⟨x2.heap.size, 0, none⟩) 2 2 1 (some ⟨x1.heap.size, 0, none⟩) n n [2, k] (List.replicate n vl0) _ rfl hc2 (fun h => by cases h) (Nat.le_refl _) (fun x hx => by simp at hx; omega) (by decide) (List.length_replicate ..) (by omega) (hcW2.mono (by simp))
            have Hx3 := Lib.hid (balloc Hx2.out (.cells #[.int .u8 2, .int .u8 (k : Int)] 5))
            by_cases hkn : k < n
            · rw [HD.out, if_pos hkn] at hdd
              have Hdd := Lib.hid hdd
              have d1 : decide ((k : Int) < (n : Int)) = true := decide_eq_true (by omega)
              have d2 : decide (k < n) = true := decide_eq_true hkn
              clear hc2 hcW2 hdd hkn
              go_wp2_with fail
              refine Hdd.out.mono ?_
              intro e x4 hg
              obtain ⟨aoX, nX, capX, rfl, HnX, -, -, hx4⟩ := hg.opened
              have hnX : nX = 1 := HnX.out.symm
              subst hnX
              have Hx4 := Lib.hid (bmore Hx3.out hx4)
              clear hg HnX hx4
              go_wp2
              go_ret
              exact ⟨by first | (simp; done) | (simp; omega), Hx4.out⟩
            · rw [HD.out, if_neg hkn] at hdd
              have Hdd := Lib.hid hdd
              have d1 : decide ((k : Int) < (n : Int)) = false := decide_eq_false (by omega)
              have d2 : decide (k < n) = false := decide_eq_false hkn
              have d3 : decide ((n : Int) ≤ (k : Int)) = true := decide_eq_true (by omega)
              have d4 : decide (n ≤ k) = true := decide_eq_true (by omega)
              clear hc2 hcW2 hdd hkn
              go_wp2_with fail
              refine Hdd.out.mono ?_
              intro e x4 hg
              obtain ⟨aoX, nX, capX, rfl, HnX, -, -, hx4⟩ := hg.opened
              have hnX : nX = 0 := HnX.out.symm
              subst hnX
              have Hx4 := Lib.hid (bmore Hx3.out hx4)
              clear hg HnX hx4
              go_wp2
              go_ret
              exact ⟨by first | (simp; done) | (simp; omega), Hx4.out⟩
end Go.Proofs.Ytkolmoebopfgiaa
