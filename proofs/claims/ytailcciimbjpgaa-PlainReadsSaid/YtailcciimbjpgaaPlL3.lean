/- Chapter 11: the law PlainInts. -/
import Derived.Test.YtailcciimbjpgaaPlainB
namespace Go.Proofs.Ytailcciimbjpgaa
open Go.RowKit
set_option linter.unusedVariables false

theorem plainB_lt (k : Nat) (l : List Vl) : ∀ x ∈ plainB k l, x < 256 := by
  unfold plainB
  split
  · exact packed_lt _ _
  · exact encs_lt k l
theorem GaveDec.open_ {w w' : World} {l : List Vl} {c : Nat} {e : Ending} (h : GaveDec w (l, c) e w') :
    ∃ ao n cap, e = .returned (.tuple #[.slice ao n cap, .int .i64 (c : Nat)]) ∧ Hid (l.length = n) ∧ CellsAt w' w'.heap.size ao (n * 2) (vlc l) ∧ Below w.heap.size w w' := by
  obtain ⟨v, rfl, ho, hb⟩ := h
  obtain ⟨ao, cap, rfl, h1, h2, h3, h4, -⟩ := own_v ho
  exact ⟨ao, _, cap, rfl, Lib.hid rfl, h3, hb⟩
/-- What was written, one value, is read. -/
theorem dec1_any (k : Nat) (h1 : 1 ≤ k) (h4 : k ≤ 4) (v : Vl) (hg : GoodV k v) (ao : Option Addr) (L cap : Nat) (w : World) (hl : L = (plainB k [v]).length) (hL : L ≤ 1000) (hc : CellsAt w w.heap.size ao L (u8c (plainB k [v]))) (hz : ao = none → L = 0) :
    Calls Try.prog 14 #[.int .i64 k, .slice ao L cap, .int .i64 1] w fun e w' => ∃ b off cap', e = .returned (.tuple #[.slice (some ⟨b, off, none⟩) 1 cap', .int .i64 0]) ∧ b < w'.heap.size ∧ w'.cell? ⟨b, off, none⟩ = some (.int .i64 v.1) ∧ w'.cell? ⟨b, off + 1, none⟩ = some (.string v.2) ∧ Below w.heap.size w w' := by
  have e := decode_plainB k h1 h4 [v] (by simp) (by intro x hx; rw [List.mem_singleton.1 hx]; exact hg)
  refine (decode_any k ao L cap (plainB k [v]) 1 w hl.symm (plainB_lt _ _) (by omega) hc hz).mono ?_
  rw [show ((1 : Int)) = (([v] : List Vl).length : Int) from rfl, e]
  intro e' w' h
  obtain ⟨ao, n, cap, rfl, hn, hc, hb⟩ := h.open_
  obtain rfl : 1 = n := hn.out
  obtain ⟨b, off, rfl, h, c0, c1⟩ := hc.val (show 0 < 1 by decide)
  rw [vN] at c0
  rw [vS] at c1
  exact ⟨b, off, cap, rfl, h, c0, c1, hb⟩

set_option maxHeartbeats 2000000 in
set_option maxRecDepth 100000 in
theorem plainInts_walk (a0 : Int) (w : World) (w0 : (Lit.int .i64 a0).wf = true) :
    Calls Try.prog 9 #[.int .i64 a0] w fun e w' => e = .returned (.bool true) ∧ Below w.heap.size w w' := by
  obtain ⟨ha1, ha2⟩ := bounds_i64 w0
  obtain ⟨s, hs⟩ : ∃ s, s = IntKind.i32.wrap a0 := ⟨_, rfl⟩
  have hs1 : -2147483648 ≤ s ∧ s ≤ 2147483647 := by rw [hs, IntKind.wrap_i32]; omega
  have hs' := hs.symm
  have e1 : IntKind.i64.wrap s = s := IntWalk.i64_in _ (by omega)
  have g2 : GoodV 2 (s, ByteArray.empty) := by unfold GoodV; rw [if_neg (by decide), if_neg (by decide), if_pos rfl]; exact ⟨rfl, hs1⟩
  have g3 : GoodV 3 (a0, ByteArray.empty) := by unfold GoodV; rw [if_neg (by decide), if_neg (by decide), if_neg (by decide)]; exact ⟨rfl, ha1, ha2⟩
  have hl2 : (plainB 2 [(s, ByteArray.empty)]).length = 4 := by rw [show plainB 2 [(s, ByteArray.empty)] = encs 2 [(s, ByteArray.empty)] from if_neg (by decide)]; simp [encs, enc1_length]
  have hl3 : (plainB 3 [(a0, ByteArray.empty)]).length = 8 := by rw [show plainB 3 [(a0, ByteArray.empty)] = encs 3 [(a0, ByteArray.empty)] from if_neg (by decide)]; simp [encs, enc1_length]
  have hE2 := fun ao cap w' h => plainE_any 2 ao 1 cap [(s, ByteArray.empty)] w' (by decide) (by decide) rfl (by decide) (by simp) h
  have hE3 := fun ao cap w' h => plainE_any 3 ao 1 cap [(a0, ByteArray.empty)] w' (by decide) (by decide) rfl (by decide) (by simp) h
  have hD2 := fun ao L cap w' a b c d => dec1_any 2 (by decide) (by decide) (s, ByteArray.empty) g2 ao L cap w' a b c d
  have hD3 := fun ao L cap w' a b c d => dec1_any 3 (by decide) (by decide) (a0, ByteArray.empty) g3 ao L cap w' a b c d
  have HE2 := Lib.hid hE2; have HE3 := Lib.hid hE3; have HD2 := Lib.hid hD2; have HD3 := Lib.hid hD3
  clear hE2 hE3 hD2 hD3
  have Hl2 := Lib.hid hl2; have Hl3 := Lib.hid hl3
  clear hs g2 g3 hl2 hl3
  have q2 : ∀ w', (Op.equalIn 10000 28 (.agg #[.int .i64 s, .string ⟨#[]⟩]) (.agg #[.int .i64 s, .string ⟨#[]⟩])).run Try.prog w' = .ok true w' := fun w' => by
    exact (equal_v w' (s, ⟨#[]⟩) (s, ⟨#[]⟩)).trans (by rw [decide_eq_true rfl])
  have q3 : ∀ w', (Op.equalIn 10000 28 (.agg #[.int .i64 a0, .string ⟨#[]⟩]) (.agg #[.int .i64 a0, .string ⟨#[]⟩])).run Try.prog w' = .ok true w' := fun w' => by
    exact (equal_v w' (a0, ⟨#[]⟩) (a0, ⟨#[]⟩)).trans (by rw [decide_eq_true rfl])
  have hg := Try.guardV
  go_enter Try.func9, Try.ntmps9
  go_wp2_with (go_at_call 10; refine (known_any _).mono ?_; rintro e x1 ⟨rfl, hx1⟩)
  refine (HE2.out _ _ _ (cells_alloc x1 _ _ 2 (vlc [(s, ByteArray.empty)]) (fun i hi => by match i, hi with | 0, _ => rfl | 1, _ => rfl))).mono ?_
  rintro e x2 ⟨v, rfl, hf⟩
  have hx2 := bmore (balloc hx1 _) hf.2
  obtain ⟨aoE, nE, capE, rfl, HnE, hcE, hzE, -⟩ := hf.u8
  obtain rfl : nE = 4 := by rw [HnE.out, Hl2.out]
  clear hf
  go_wp2_with fail
  refine (HD2.out _ _ _ _ HnE.out (by omega) hcE hzE).mono ?_
  rintro e x3 ⟨b, off, cap, rfl, hb, c0, c1, hx3⟩
  have hy3 := bmore hx2 hx3
  have hz3 := Below.refl x3.heap.size x3
  clear hcE hzE hx3
  go_wp2_with fail
  refine (HE3.out _ _ _ (cells_alloc x3 _ _ 2 (vlc [(a0, ByteArray.empty)]) (fun i hi => by match i, hi with | 0, _ => rfl | 1, _ => rfl))).mono ?_
  rintro e x4 ⟨v, rfl, hf⟩
  have hy4 := bmore (balloc hy3 _) hf.2
  have hz4 := bmore (balloc hz3 _) hf.2
  obtain ⟨aoF, nF, capF, rfl, HnF, hcF, hzF, -⟩ := hf.u8
  obtain rfl : nF = 8 := by rw [HnF.out, Hl3.out]
  clear hf
  go_wp2_with fail
  refine (HD3.out _ _ _ _ HnF.out (by omega) hcF hzF).mono ?_
  rintro e x5 ⟨b', off', cap', rfl, hb', c0', c1', hx5⟩
  have hy5 := bmore hy4 hx5
  have hz5 := bmore hz4 hx5
  have d0 := (hz5.cell (by exact hb)).trans c0
  have d1 := (hz5.cell (by exact hb)).trans c1
  clear hcF hzF hx5 c0 c1 hz3 hz4
  have d1' : x5.cell? ⟨b, off + 1, none⟩ = some (.string ⟨#[]⟩) := d1
  have c1'' : x5.cell? ⟨b', off' + 1, none⟩ = some (.string ⟨#[]⟩) := c1'
  have d0' : x5.cell? ⟨b, off, none⟩ = some (.int .i64 s) := d0
  have c0'' : x5.cell? ⟨b', off', none⟩ = some (.int .i64 a0) := c0'
  clear d0 d1 c0' c1'
  go_wp2
  go_ret
  exact ⟨rfl, hy5⟩
end Go.Proofs.Ytailcciimbjpgaa
