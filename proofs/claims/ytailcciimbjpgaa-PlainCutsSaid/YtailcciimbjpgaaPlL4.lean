/- Chapter 11: the law PlainCuts. -/
import Derived.Test.YtailcciimbjpgaaPlL3
import Derived.Test.YtailcciimbjpgaaSl
namespace Go.Proofs.Ytailcciimbjpgaa
open Go.RowKit
set_option linter.unusedVariables false

theorem own_cap {w : World} {base E : Nat} {ao : Option Addr} {n cap : Nat} {xs : List Value} (h : w.ownsRow base E 1 (.slice ao n cap) n xs) (h0 : 0 < n) : n ≤ cap := by
  rcases h.2 with ⟨-, h3⟩ | ⟨g, c2, cur, h3, hb, hg, hnc, -⟩
  · omega
  · simp only [Value.slice.injEq] at h3
    omega
theorem plainB_pos (k : Nat) (h1 : 1 ≤ k) (h4 : k ≤ 4) (l : List Vl) (h : 0 < l.length) : 0 < (plainB k l).length := by
  unfold plainB
  split
  · rw [packed1_length, List.length_map]; omega
  · match l, h with
    | v :: t, _ =>
      simp only [encs, List.map_cons, List.flatten_cons, List.length_append, enc1_length]
      split
      · omega
      · split <;> omega
theorem plainB_le (k : Nat) (l : List Vl) (h : ∀ v ∈ l, v.2.size ≤ 100) : (plainB k l).length ≤ 104 * l.length := by
  unfold plainB
  split
  · rw [packed1_length, List.length_map]; omega
  · exact encs_le k l h

set_option maxHeartbeats 4000000 in
set_option maxRecDepth 100000 in
theorem plainCuts_walk (a0 : Int) (a1 : Option Addr) (len1 cap1 : Nat) (z1 : List Vl) (a2 : Int) (a3 : Option Addr) (len3 cap3 : Nat) (z3 : List Int) (w : World)
    (w0 : (Lit.int .i64 a0).wf = true) (w1 : IsVals w a1 len1 cap1 z1) (w2 : (Lit.int .i64 a2).wf = true) (w3 : IsRow .u8 w a3 len3 cap3 z3) :
    Calls Try.prog 7 #[.int .i64 a0, .slice a1 len1 cap1, .int .i64 a2, .slice a3 len3 cap3] w fun e w' => e = .returned (.bool true) ∧ Below w.heap.size w w' := by
  obtain ⟨ha1, ha2⟩ := bounds_i64 w0
  obtain ⟨hb1, hb2⟩ := bounds_i64 w2
  have hlen1 : len1 ≤ 9223372036854775807 := by have := w1.2.1; have := w1.2.2.1; omega
  have hz3 : a3 = none → len3 = 0 ∧ cap3 = 0 := by have := w3.open_; exact this.2.2.1
  obtain ⟨M, hMl, hMb, hMc, hMn, hlen3⟩ := w3.u8
  have HMl := Lib.hid hMl; have HMb := Lib.hid hMb; clear hMl hMb w3 hMn
  by_cases c0 : len3 = 0
  · subst c0
    go_enter Try.func7, Try.ntmps7
    go_wp2_with (go_at_call 10; refine (known_any _).mono ?_; rintro e x1 ⟨rfl, hx1⟩)
    go_ret
    exact ⟨rfl, hx1⟩
  by_cases c1 : 30 < len3
  · go_enter Try.func7, Try.ntmps7
    go_wp2_with (go_at_call 10; refine (known_any _).mono ?_; rintro e x1 ⟨rfl, hx1⟩)
    go_ret
    exact ⟨rfl, hx1⟩
  by_cases c2 : len1 = 0
  · subst c2
    go_enter Try.func7, Try.ntmps7
    go_wp2_with (go_at_call 10; refine (known_any _).mono ?_; rintro e x1 ⟨rfl, hx1⟩)
    go_ret
    exact ⟨rfl, hx1⟩
  have b0 : ((len3 : Int) == 0) = false := by rw [beq_eq_false_iff_ne]; omega
  have b1 : decide ((30 : Int) < (len3 : Int)) = false := decide_eq_false (by omega)
  have b2 : ((len1 : Int) == 0) = false := by rw [beq_eq_false_iff_ne]; omega
  obtain ⟨q, hq, hq4⟩ := modN' a0 4 (by decide)
  have Hq : Hid (a0 % 4 = (q : Int)) := Lib.hid hq
  clear hq
  obtain ⟨k, hk⟩ : ∃ k : Nat, k = q + 1 := ⟨_, rfl⟩
  have hk2 : (1 : Int) + (q : Int) = (k : Nat) := by omega
  have hk1 : 1 ≤ k := by omega
  have hk4 : k ≤ 4 := by omega
  have hs100 := allV_sizes k z1
  have hl60 := allV_length k z1
  rw [w1.1] at hl60
  have hgood : Hid (∀ v ∈ allV k z1, GoodV k v) := Lib.hid (by
    intro v hv
    obtain ⟨u, hu, rfl⟩ := List.mem_map.1 hv
    exact goodV_good k hk1 hk4 u (w1.2.2.2.2.2 u (List.mem_of_mem_take hu)))
  have hA := fun (w' : World) (h : IsVals w' a1 len1 cap1 z1) => all_any k a1 len1 cap1 z1 w' (by omega) (by omega) h
  obtain ⟨r, hr⟩ : ∃ r, r = allV k z1 := ⟨_, rfl⟩
  rw [← hr] at hs100 hl60 hA hgood
  have Hs := Lib.hid hs100; clear hs100 hr hk hq4
  go_enter Try.func7, Try.ntmps7
  go_wp2_with (go_at_call 10; refine (known_any _).mono ?_; rintro e x1 ⟨rfl, hx1⟩)
  refine (within_any _ _ _ (by omega) (by omega) ha1 ha2).mono ?_; rw [Hq.out]; rintro e x2 ⟨rfl, rfl⟩
  go_wp2_with fail
  refine (hA _ (w1.below hx1)).mono ?_
  rintro e x2 ⟨v, rfl, hf⟩
  have hx2 := bmore hx1 hf.2
  obtain ⟨aoR, nR, capR, rfl, HlR, hncR, hcR, hnR⟩ := hf.open_
  have hn60 : nR ≤ 60 := by have h := HlR.out; omega
  have hn1 : 0 < nR := by have h := HlR.out; omega
  clear hf hA hl60 w1 hx1
  have HE := Lib.hid (fun w' h => plainE_any k aoR nR capR r w' hk1 hk4 HlR.out (by omega) Hs.out h)
  obtain ⟨B, hB⟩ : ∃ B, B = plainB k r := ⟨_, rfl⟩
  have HB256 : Hid (∀ x ∈ B, x < 256) := Lib.hid (by rw [hB]; exact plainB_lt k r)
  have hBl : 0 < B.length ∧ B.length ≤ 6240 := by
    rw [hB]; refine ⟨plainB_pos k hk1 hk4 r (by rw [HlR.out]; exact hn1), ?_⟩
    have := plainB_le k r Hs.out; rw [HlR.out] at this; omega
  have HCut : Hid (∀ m, m < B.length → decodeM k (B.take m) nR = ([], 8)) := Lib.hid (fun m hm => by
    rw [hB] at hm ⊢; have := decode_cut k hk1 hk4 r m hm (by rw [HlR.out]; omega) hgood.out; rwa [HlR.out] at this)
  have HMore : Hid (∀ R : List Nat, 0 < R.length → decodeM k (B ++ R) nR = ([], 9)) := Lib.hid (fun R hR => by
    rw [hB]; have := decode_more k hk1 hk4 r R hR (by rw [HlR.out]; omega) hgood.out; rwa [HlR.out] at this)
  rw [← hB] at HE
  have HBl := Lib.hid hBl; clear hBl hB
  go_wp2_with fail
  refine (HE.out _ hcR).mono ?_
  rintro e x3 ⟨v, rfl, hf⟩
  have hx3 := bmore hx2 hf.2
  obtain ⟨aoE, nE, capE, rfl, HnE, hcE, hzE, hoE⟩ := hf.u8
  have hnE : 0 < nE ∧ nE ≤ 6240 := by have := HBl.out; rw [← HnE.out] at this; exact this
  have hcapE := own_cap hoE hnE.1
  clear hf hoE hcR
  obtain ⟨m, hm, hml⟩ := modN' a2 nE (by omega)
  have Hm : Hid (a2 % (nE : Int) = (m : Int)) := Lib.hid hm
  clear hm
  have hmE : (m : Int) ≤ nE := by omega
  have hmC : (m : Int) ≤ capE := by omega
  go_wp2_with fail
  refine (within_any _ _ _ (by omega) (by omega) hb1 hb2).mono ?_; rw [Hm.out]; rintro e x4 ⟨rfl, rfl⟩
  have hcT : CellsAt x3 x3.heap.size aoE m (u8c (B.take m)) := (hcE.take (by omega)).congr (fun i hi => (u8c_take _ _ _ hi).symm)
  go_wp2_with fail
  refine (decode_any k aoE m capE (B.take m) nR _ (by rw [List.length_take, ← HnE.out]; omega) (fun x hx => HB256.out x (List.mem_of_mem_take hx)) (by omega) hcT (fun e => by have := hzE e; omega)).mono ?_
  rw [HCut.out m (by rw [← HnE.out]; exact hml)]
  intro e x4 h
  obtain ⟨aoX, nX, capX, rfl, -, -, hx4⟩ := h.open_
  have hcE4 := hcE.at hx4
  have hx4 := bmore hx3 hx4
  clear hcE hcT
  go_wp2_with (at_builtin; refine wpList_append_clone1 sl_u8 rfl (.tmp 55) (.tmp 56) rfl rfl rfl (hcE4.alloc (Nat.le_refl _) _) hzE (fun _ _ => rfl) (by unfold maxLen; omega) (by omega) ?_)
  intro ao5 cap5 x5 hc5 hb5 hown
  have hy5 : Below x4.heap.size x4 x5 := (balloc (Below.refl _ _) _).trans (hb5.mono (by simp))
  have hown5 := Lib.hid hown.row
  have hs5 := Lib.hid hb5.size
  clear hown hc5
  go_wp2_with (at_builtin; refine wpList_append_rows1 sl_u8 rfl (.tmp 57) (.tmp 58) rfl rfl hown5.out rfl (hMc.at (bmore hx4 hy5)) hz3 (fun _ _ => rfl) (by unfold maxLen; omega) (by omega) hs5.out ?_)
  intro ao6 cap6 x6 hc6 hb6 hs6
  have hy6 : Below x4.heap.size x4 x6 := hy5.trans (hb6.mono (by simp))
  have hc6' : CellsAt x6 x6.heap.size ao6 (nE + len3) (u8c (B ++ M)) := hc6.congr (fun i hi => by
    split
    · rename_i h
      simp only [u8c, List.getD_eq_getElem?_getD]
      rw [List.getElem?_append_left (by rw [← HnE.out]; exact h)]
    · rename_i h
      simp only [u8c, List.getD_eq_getElem?_getD]
      rw [List.getElem?_append_right (by rw [← HnE.out]; omega), ← HnE.out])
  have hz6 : ao6 = none → nE + len3 = 0 := fun e => by
    subst e
    obtain ⟨b, off, e, -⟩ := hc6 0 (by omega)
    cases e
  clear hc6
  go_wp2_with fail
  refine (decode_any k ao6 (nE + len3) cap6 (B ++ M) nR _ (by rw [List.length_append, ← HnE.out, HMl.out]) (fun x hx => by rcases List.mem_append.1 hx with h | h; exact HB256.out x h; exact HMb.out x h) (by omega) hc6' hz6).mono ?_
  rw [HMore.out M (by rw [HMl.out]; omega)]
  intro e x7 h
  obtain ⟨aoY, nY, capY, rfl, -, -, hx7⟩ := h.open_
  have hx7 := bmore (bmore hx4 hy6) hx7
  go_wp2
  go_ret
  exact ⟨rfl, hx7⟩
end Go.Proofs.Ytailcciimbjpgaa
