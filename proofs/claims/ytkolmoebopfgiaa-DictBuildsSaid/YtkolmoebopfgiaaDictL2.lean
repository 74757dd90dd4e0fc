/- Chapter 13: the law DictWords. -/
import Derived.Test.YtkolmoebopfgiaaDictL1
namespace Go.Proofs.Ytkolmoebopfgiaa
open Go.RowKit
set_option linter.unusedVariables false

theorem dStep_idx_le (ws : List Vl) (v : Vl) : dIdx v (dStep ws v) ≤ ws.length := by
  unfold dStep; split
  · rename_i h; exact Nat.le_of_lt (dIdx_lt v ws h)
  · rename_i h; rw [dIdx_new v ws h]; exact Nat.le_refl _
theorem dStep_len (ws : List Vl) (v : Vl) : (dStep ws v).length = if dIdx v (dStep ws v) = ws.length then ws.length + 1 else ws.length := by
  unfold dStep; split
  · rename_i h; rw [if_neg (by have := dIdx_lt v ws h; omega)]
  · rename_i h; rw [dIdx_new v ws h, if_pos rfl]; simp
theorem dAt_final (r : List Vl) (j : Nat) (hj : j < r.length) :
    (dAtsI r).getD j 0 = (dIdx (r.getD j vl0) (dStep (dWords (r.take j)) (r.getD j vl0)) : Int) ∧ (dWords r).getD (dIdx (r.getD j vl0) (dStep (dWords (r.take j)) (r.getD j vl0))) vl0 = r.getD j vl0 ∧
      dIdx (r.getD j vl0) (dStep (dWords (r.take j)) (r.getD j vl0)) < (dWords r).length := by
  obtain ⟨v, hv⟩ : ∃ v, v = r.getD j vl0 := ⟨_, rfl⟩
  rw [← hv]
  have htk : r.take (j + 1) = r.take j ++ [v] := by
    rw [List.take_succ_eq_append_getElem hj, hv, List.getD_eq_getElem?_getD, List.getElem?_eq_getElem hj]; rfl
  have hr : r = (r.take j ++ [v]) ++ r.drop (j + 1) := by rw [← htk, List.take_append_drop]
  obtain ⟨t, ht⟩ := dAtsI_app (r.take j ++ [v]) (r.drop (j + 1))
  obtain ⟨u, hu⟩ := dWords_app (r.take j ++ [v]) (r.drop (j + 1))
  rw [← hr] at ht hu
  rw [dWords_snoc] at hu
  have hmem := mem_dStep (dWords (r.take j)) v
  refine ⟨?_, ?_, ?_⟩
  · have hlen : (dAtsI (r.take j)).length = j := by unfold dAtsI; rw [List.length_map, dAts_length, List.length_take]; omega
    rw [ht, dAtsI_snoc, getD_app_i _ _ _ (by rw [List.length_append, hlen]; simp)]
    simp [List.getD_eq_getElem?_getD, List.getElem?_append_right, hlen]
  · rw [hu]
    have := dIdx_at v (dStep (dWords (r.take j)) v) hmem
    rw [getD_app_lt _ _ _ (dIdx_lt v _ hmem)]
    exact this
  · rw [hu, List.length_append]
    have := dIdx_lt v _ hmem
    omega
theorem dWords_nodup (r : List Vl) : (dWords r).Nodup := by
  refine snoc_ind (p := fun l => (dWords l).Nodup) List.nodup_nil (fun l x ih => ?_) r
  rw [dWords_snoc]
  unfold dStep; split
  · exact ih
  · rename_i h
    rw [List.nodup_append]
    refine ⟨ih, by simp, fun a ha b hb => ?_⟩
    rw [List.mem_singleton] at hb
    subst hb
    exact fun e => h (by rw [← e]; exact ha)
theorem nodup_ne {l : List Vl} (h : l.Nodup) (i j : Nat) (hi : i < l.length) (hj : j < i) : l.getD i vl0 ≠ l.getD j vl0 := by
  rw [List.getD_eq_getElem?_getD, List.getD_eq_getElem?_getD, List.getElem?_eq_getElem hi, List.getElem?_eq_getElem (by omega)]
  simp only [Option.getD_some]
  intro e
  exact (List.pairwise_iff_getElem.1 h) j i (by omega) hi hj e.symm

set_option maxHeartbeats 8000000 in
set_option maxRecDepth 100000 in
theorem dictWords_walk (a0 : Int) (a1 : Option Addr) (len1 cap1 : Nat) (z1 : List Vl) (w : World) (w0 : (Lit.int .i64 a0).wf = true) (w1 : IsVals w a1 len1 cap1 z1) :
    Calls Try.prog 3 #[.int .i64 a0, .slice a1 len1 cap1] w fun e w' => e = .returned (.bool true) ∧ Below w.heap.size w w' := by
  obtain ⟨ha1, ha2⟩ := bounds_i64 w0
  obtain ⟨q, hq, hq4⟩ := modN' a0 4 (by decide)
  have Hq : Hid (a0 % 4 = (q : Int)) := Lib.hid hq
  clear hq
  obtain ⟨k, hk⟩ : ∃ k : Nat, k = q + 1 := ⟨_, rfl⟩
  have hk2 : (1 : Int) + (q : Int) = (k : Nat) := by omega
  have hk1 : 1 ≤ k := by omega
  have hk4 : k ≤ 4 := by omega
  clear hk hq4
  have hl1 := allV_length k z1
  have ok1 := allV_ok k z1 w1.2.2.2.2.2
  have hA1 := fun (w' : World) (h : IsVals w' a1 len1 cap1 z1) => all_any k a1 len1 cap1 z1 w' hk1 hk4 h
  obtain ⟨r, hr⟩ : ∃ r, r = allV k z1 := ⟨_, rfl⟩
  rw [← hr] at hl1 ok1 hA1
  have Ok1 := Lib.hid ok1
  have h60 : r.length ≤ 60 := by omega
  have H60 := Lib.hid h60
  have HA1 := Lib.hid hA1
  clear hr ok1 hl1 h60 hA1
  go_enter Try.func3, Try.ntmps3
  go_wp2_with (go_at_call 10; refine (known_any _).mono ?_; rintro e x1 ⟨rfl, hx1⟩)
  refine (within_any _ _ _ (by omega) (by omega) ha1 ha2).mono ?_; rw [Hq.out]; rintro e x2 ⟨rfl, rfl⟩
  go_wp2_with fail
  refine (HA1.out _ (w1.below hx1)).mono ?_
  rintro e x2 ⟨v, rfl, hf⟩
  have hx2 := bmore hx1 hf.2
  obtain ⟨aoR, capR, rfl, hlR, hncR, hcR, hnR, -⟩ := own_v hf.1
  obtain ⟨n, hn⟩ : ∃ n, n = r.length := ⟨_, rfl⟩
  rw [← hn] at hncR hcR hnR ⊢
  have hn60 : n ≤ 60 := by rw [hn]; exact H60.out
  have HlR : Hid (r.length = n) := Lib.hid hn.symm
  clear hf hn hlR w1
  have hw1 : (dWords r).length ≤ n := by rw [← HlR.out]; exact dWords_le r
  have Hw1 := Lib.hid hw1
  go_wp2_with fail
  refine (build_yes k aoR n capR r 256 _ HlR.out (by omega) Ok1.out hcR (by decide) (by omega)).mono ?_
  rintro e x3 ⟨v3, u3, rfl, how3, hoa3, hb3⟩
  have hx3 := bmore hx2 hb3
  obtain ⟨aW, cW, rfl, -, hncW, hcW, -, -⟩ := own_v how3
  obtain ⟨aA, cA, rfl, hcA, -⟩ := own_i64 hoa3
  obtain ⟨m, hm⟩ : ∃ m, m = (dWords r).length := ⟨_, rfl⟩
  rw [← hm] at hncW hcW hw1 ⊢
  have Hm := Lib.hid hm
  have hcR3 := hcR.at hb3
  clear hm hcR how3 hoa3
  go_wp2
  go_loopw [10, 11] (fun s i wr => ∃ j t d : Nat, j ≤ n ∧ t ≤ 60 ∧ i = .int .i64 j ∧ s = .int .i64 t ∧ Hid (t = (dWords (r.take j)).length) ∧ wr = x3.drewN d) (fun _ i _ => n - (intOf i).toNat)
  case atStart => exact ⟨0, 0, 0, Nat.zero_le _, Nat.zero_le _, rfl, rfl, Lib.hid rfl, rfl⟩
  case round =>
    obtain ⟨j, t, d, hj, ht60, rfl, rfl, ht, rfl⟩ := hrel
    by_cases hlt : j < n
    · have hlt' : j < r.length := by rw [HlR.out]; exact hlt
      obtain ⟨e1, e2, e3⟩ := dAt_final r j hlt'
      obtain ⟨v, hv⟩ : ∃ v, v = r.getD j vl0 := ⟨_, rfl⟩
      rw [← hv] at e1 e2 e3
      have hle := dStep_idx_le (dWords (r.take j)) v
      have hln := dStep_len (dWords (r.take j)) v
      have htk : dWords (r.take (j + 1)) = dStep (dWords (r.take j)) v := by
        rw [← dWords_snoc, List.take_succ_eq_append_getElem hlt', hv, List.getD_eq_getElem?_getD, List.getElem?_eq_getElem hlt']; rfl
      rw [← htk, ← ht.out] at hln hle
      rw [← htk] at e1 e2 e3
      obtain ⟨x, hx⟩ : ∃ x, x = dIdx v (dWords (r.take (j + 1))) := ⟨_, rfl⟩
      rw [← hx] at e1 e2 e3 hle hln
      have hxm : x < m := by rw [Hm.out]; exact e3
      have hl60 : (dWords (r.take (j + 1))).length ≤ 60 := by
        have := dWords_take_le r (j + 1); have := Hw1.out; omega
      obtain ⟨bA, oA, rfl, hbA, cA0⟩ := hcA j hlt
      obtain ⟨bW, oW, rfl, hbW, cW0, cW1⟩ := hcW.val hxm
      obtain ⟨bR, oR, rfl, hbR, cR0, cR1⟩ := hcR3.val hlt
      rw [i64c, e1] at cA0
      rw [vN, e2] at cW0
      rw [vS, e2] at cW1
      rw [vN, ← hv] at cR0
      rw [vS, ← hv] at cR1
      have heq := fun w' => equal_v w' v v
      have hg := Try.guardV
      have hdv : decide (v = v) = true := decide_eq_true rfl
      have Hln := Lib.hid hln
      have Htk := Lib.hid htk
      have q2 : decide ((m : Int) ≤ (x : Int)) = false := decide_eq_false (by omega)
      have q4 : decide ((t : Int) < (x : Int)) = false := decide_eq_false (by omega)
      have q1 : decide ((x : Int) < 0) = false := decide_eq_false (by omega)
      clear e1 e2 e3 hx hv hln htk hcA hcW hcR3 hlt'
      by_cases hxt : x = t
      · have hb : ((x : Int) == (t : Int)) = true := by rw [hxt]; simp
        have hl1 : Hid (t + 1 = (dWords (r.take (j + 1))).length) := Lib.hid (by rw [Hln.out, if_pos hxt])
        have ht1 : t + 1 ≤ 60 := by rw [hl1.out]; exact hl60
        have Hxt := Lib.hid hxt
        clear hxt hl60
        go_wp2
        go_quiet (fail)
        go_wp2
        go_roundw
        case rel => exact ⟨j + 1, t + 1, d + nq, by omega, ht1, by go_num, by go_num, hl1, rfl⟩
        case measure => simp [intOf]; omega
      · have hb : ((x : Int) == (t : Int)) = false := by rw [beq_eq_false_iff_ne]; omega
        have hl1 : Hid (t = (dWords (r.take (j + 1))).length) := Lib.hid (by rw [Hln.out, if_neg hxt])
        clear hxt hl60
        go_wp2
        go_quiet (fail)
        go_wp2
        go_roundw
        case rel => exact ⟨j + 1, t, d + nq, by omega, ht60, by go_num, rfl, hl1, rfl⟩
        case measure => simp [intOf]; omega
    · obtain rfl : j = n := by omega
      have hall : r.take j = r := List.take_of_length_le (by rw [HlR.out]; exact Nat.le_refl _)
      have htm : t = m := by rw [ht.out, hall, Hm.out]
      subst htm
      clear ht hall hcA
      go_wp2
      go_loopw [12] (fun i wr => ∃ a d : Nat, a ≤ t ∧ i = .int .i64 a ∧ wr = x3.drewN d) (fun i _ => t - (intOf i).toNat)
      case atStart => exact ⟨0, d, Nat.zero_le _, rfl, rfl⟩
      case round =>
        obtain ⟨a, d2, ha, rfl, rfl⟩ := hrel
        by_cases hat : a < t
        · go_wp2
          go_loopw [13] (fun i wr => ∃ c d : Nat, c ≤ a ∧ i = .int .i64 c ∧ wr = x3.drewN d) (fun i _ => a - (intOf i).toNat)
          case atStart => exact ⟨0, d2, Nat.zero_le _, rfl, rfl⟩
          case round =>
            obtain ⟨c, d3, hc, rfl, rfl⟩ := hrel
            by_cases hca : c < a
            · have hct : c < t := by omega
              obtain ⟨bW, oW, rfl, hbW, cW0, cW1⟩ := hcW.val hat
              obtain ⟨bW', oW', eW, -, cW0', cW1'⟩ := hcW.val hct
              cases eW
              have hne := nodup_ne (dWords_nodup r) a c (by rw [← Hm.out]; exact hat) hca
              obtain ⟨y, hy⟩ : ∃ y, y = (dWords r).getD a vl0 := ⟨_, rfl⟩
              obtain ⟨z, hz⟩ : ∃ z, z = (dWords r).getD c vl0 := ⟨_, rfl⟩
              rw [vN, ← hy] at cW0
              rw [vS, ← hy] at cW1
              rw [vN, ← hz] at cW0'
              rw [vS, ← hz] at cW1'
              rw [← hy, ← hz] at hne
              have heq := fun w' => equal_v w' y z
              have hg := Try.guardV
              have hd : decide (y = z) = false := decide_eq_false hne
              clear hy hz hne hcW hcR3
              go_wp2
              go_quiet (fail)
              go_wp2
              go_roundw
              case rel => exact ⟨c + 1, d3 + nq, by omega, by go_num, rfl⟩
              case measure => simp [intOf]; omega
            · obtain rfl : c = a := by omega
              go_wp2
              go_roundw
              case rel => exact ⟨c + 1, d3, by omega, by go_num, rfl⟩
              case measure => simp [intOf]; omega
        · obtain rfl : a = t := by omega
          have hcRd : CellsAt (x3.drewN d2) (x3.drewN d2).heap.size aoR (j * 2) (vlc r) := fun i hi => hcR3 i hi
          have hxd : Below w.heap.size w (x3.drewN d2) := bdrewN hx3 d2
          go_wp2_with fail
          refine (build_yes k aoR j capR r a _ HlR.out (by omega) Ok1.out hcRd (by omega) (by rw [← Hm.out]; exact Nat.le_refl _)).mono ?_
          rintro e y1 ⟨v4, u4, rfl, -, -, hb4⟩
          have hy1 := bmore hxd hb4
          have hcR4 := hcRd.at hb4
          clear hcRd hcR3
          by_cases ha0 : a = 0
          · subst ha0
            go_wp2_with fail
            refine (build_range k aoR j capR _ _ (by omega)).mono ?_
            rintro e y2 ⟨rfl, hb5⟩
            have hy2 := bmore hy1 hb5
            go_wp2
            go_ret
            exact ⟨rfl, hy2⟩
          · have hm1 : (a : Int) - 1 = ((a - 1 : Nat) : Int) := by omega
            have hov := build_over k aoR j capR r (a - 1) y1 HlR.out (by omega) Ok1.out hcR4 (by omega) (by rw [← Hm.out]; omega)
            have Hov := Lib.hid hov; clear hov
            obtain ⟨a', ha'⟩ : ∃ a', a' = a - 1 := ⟨_, rfl⟩
            rw [← ha'] at hm1 Hov
            clear ha' ha0
            go_wp2_with fail
            refine Hov.out.mono ?_
            rintro e y2 ⟨rfl, hb5⟩
            have hy2 := bmore hy1 hb5
            go_wp2
            go_ret
            exact ⟨rfl, hy2⟩
end Go.Proofs.Ytkolmoebopfgiaa
