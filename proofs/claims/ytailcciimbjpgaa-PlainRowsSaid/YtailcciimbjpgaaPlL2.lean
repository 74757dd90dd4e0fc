/- Chapter 11: the law PlainRows. -/
import Derived.Test.YtailcciimbjpgaaPlK
import Derived.Test.YtailcciimbjpgaaLin
namespace Go.Proofs.Ytailcciimbjpgaa
open Go.RowKit
set_option linter.unusedVariables false

theorem getD_drop (l : List Vl) (k i : Nat) : (l.drop k).getD i vl0 = l.getD (k + i) vl0 := by simp [List.getD_eq_getElem?_getD]
theorem getD_take (l : List Vl) (k i : Nat) (h : i < k) : (l.take k).getD i vl0 = l.getD i vl0 := by simp [List.getD_eq_getElem?_getD, h]
theorem vlc_take (l : List Vl) (k j : Nat) (h : j < k * 2) : vlc (l.take k) j = vlc l j := by
  unfold vlc vN vS; rw [getD_take l k _ (by omega)]
theorem vlc_drop (l : List Vl) (k j : Nat) : vlc (l.drop k) j = vlc l (k * 2 + j) := by
  unfold vlc vN vS; rw [getD_drop, show (k * 2 + j) / 2 = k + j / 2 by omega, show (k * 2 + j) % 2 = j % 2 by omega]
theorem drop_sliceV {w : World} {B : Nat} {a : Option Addr} {n cap k : Nat} {l : List Vl} (h : CellsAt w B a (n * 2) (vlc l)) (hk : k ≤ n) (hc : n ≤ cap) :
    CellsAt w B (if cap = k then a else a.map (·.add (k * 2))) ((n - k) * 2) (vlc (l.drop k)) := by
  by_cases e : cap = k
  · rw [if_pos e, show n - k = 0 by omega, Nat.zero_mul]; exact CellsAt.zero
  · rw [if_neg e]
    intro i hi
    obtain ⟨b, off, rfl, hb, hcc⟩ := h (k * 2 + i) (by omega)
    refine ⟨b, off + k * 2, by simp [Addr.add_lit], hb, ?_⟩
    rw [vlc_drop, ← hcc, Nat.add_assoc]
theorem slice_loV (a : Option Addr) (len cap k : Nat) (hk : k ≤ len) (hc : len ≤ cap) (w : World) :
    (Instr.sliceAt 22 (.slice a len cap) (some (.int .i64 (k : Nat))) none none).run Try.prog w = .ok (.slice (if cap = k then a else a.map (·.add (k * 2))) (len - k) (cap - k)) w := by
  have h := run_slice_l (P := Try.prog) (w := w) 22 a len cap Try.underlying22 .i64 (k : Int) (by omega) (by omega)
  rw [run_sliceAt_slice (P := Try.prog) w _ _ _ _ _ Try.underlying22, h, Int.toNat_natCast]
  have hs : (sizeOf (Try.prog.elem 22)).run Try.prog w = .ok 2 w := by kernel_rfl
  rw [hs]
  simp [Result.andThen, sliced]
theorem strOf_size (l : List Nat) : (strOf l).size = l.length := by
  show (strOf l).data.size = _
  rw [← Array.length_toList]
  simp [strOf, strOfNums_data]
theorem strOf_append (a b : List Nat) : strOf a ++ strOf b = strOf (a ++ b) := by
  apply ByteArray.ext
  apply Array.ext'
  rw [ByteArray.data_append, Array.toList_append]
  simp [strOf, strOfNums_data]

set_option maxHeartbeats 4000000 in
set_option maxRecDepth 100000 in
theorem plainRows_walk (a0 : Int) (a1 : Option Addr) (len1 cap1 : Nat) (z1 : List Vl) (a2 : Int) (w : World) (w0 : (Lit.int .i64 a0).wf = true) (w1 : IsVals w a1 len1 cap1 z1) (w2 : (Lit.int .i64 a2).wf = true) :
    Calls Try.prog 4 #[.int .i64 a0, .slice a1 len1 cap1, .int .i64 a2] w fun e w' => e = .returned (.bool true) ∧ Below w.heap.size w w' := by
  obtain ⟨ha1, ha2⟩ := bounds_i64 w0
  obtain ⟨hb1, hb2⟩ := bounds_i64 w2
  obtain ⟨q, hq, hq4⟩ := modN' a0 3 (by decide)
  have Hq : Hid (a0 % 3 = (q : Int)) := Lib.hid hq
  clear hq
  obtain ⟨k, hk⟩ : ∃ k : Nat, k = q + 2 := ⟨_, rfl⟩
  have hk2 : (2 : Int) + (q : Int) = (k : Nat) := by omega
  have hk1 : 2 ≤ k := by omega
  have hk4 : k ≤ 4 := by omega
  have hs100 := allV_sizes k z1
  have hl60 := allV_length k z1
  have hA := fun (w' : World) (h : IsVals w' a1 len1 cap1 z1) => all_any k a1 len1 cap1 z1 w' (by omega) (by omega) h
  obtain ⟨r, hr⟩ : ∃ r, r = allV k z1 := ⟨_, rfl⟩
  rw [← hr] at hs100 hl60 hA
  have Hs := Lib.hid hs100; clear hs100 hr hk hq4
  go_enter Try.func4, Try.ntmps4
  go_wp2_with (go_at_call 10; refine (known_any _).mono ?_; rintro e x1 ⟨rfl, hx1⟩)
  refine (within_any _ _ _ (by omega) (by omega) ha1 ha2).mono ?_; rw [Hq.out]; rintro e x2 ⟨rfl, rfl⟩
  go_wp2_with fail
  refine (hA _ (w1.below hx1)).mono ?_
  rintro e x2 ⟨v, rfl, hf⟩
  have hx2 := bmore hx1 hf.2
  obtain ⟨aoR, nR, capR, rfl, HlR, hncR, hcR, hnR⟩ := hf.open_
  have hn60 : nR ≤ 60 := by rw [← HlR.out]; omega
  clear hf hA hl60 w1 hx1
  obtain ⟨m, hm, hml⟩ := modN' a2 (nR + 1) (by omega)
  have Hm : Hid (a2 % ((nR : Int) + 1) = (m : Int)) := Lib.hid (by rw [← hm]; congr 1)
  clear hm
  have hmle : m ≤ nR := by omega
  have hmc : (m : Int) ≤ capR := by omega
  have hml' : (m : Int) ≤ nR := by omega
  have hsl := slice_loV aoR nR capR m hmle hncR
  obtain ⟨aD, haD⟩ : ∃ aD, aD = (if capR = m then aoR else aoR.map (·.add (m * 2))) := ⟨_, rfl⟩
  have hcD := drop_sliceV hcR hmle hncR
  have hcT : CellsAt x2 x2.heap.size aoR (m * 2) (vlc (r.take m)) := (hcR.take (by omega)).congr (fun i hi => (vlc_take _ _ _ hi).symm)
  rw [← haD] at hsl hcD
  clear haD
  have hlT : Hid ((r.take m).length = m) := Lib.hid (by rw [List.length_take, HlR.out]; omega)
  have hlD : Hid ((r.drop m).length = nR - m) := Lib.hid (by rw [List.length_drop, HlR.out])
  have HsT : Hid (∀ v ∈ r.take m, v.2.size ≤ 100) := Lib.hid (fun v hv => Hs.out v (List.mem_of_mem_take hv))
  have HsD : Hid (∀ v ∈ r.drop m, v.2.size ≤ 100) := Lib.hid (fun v hv => Hs.out v (List.mem_of_mem_drop hv))
  have hsum : strOf (plainB k (r.take m)) ++ strOf (plainB k (r.drop m)) = strOf (plainB k r) := by
    rw [strOf_append]
    unfold plainB
    rw [if_neg (by omega), if_neg (by omega), if_neg (by omega), ← encs_append, List.take_append_drop]
  obtain ⟨P1, hP1⟩ : ∃ P, P = plainB k r := ⟨_, rfl⟩
  obtain ⟨P2, hP2⟩ : ∃ P, P = plainB k (r.take m) := ⟨_, rfl⟩
  obtain ⟨P3, hP3⟩ : ∃ P, P = plainB k (r.drop m) := ⟨_, rfl⟩
  rw [← hP1, ← hP2, ← hP3] at hsum
  have hz2 : (strOf P2).size ≤ 1000000 := by
    rw [hP2, strOf_size]; unfold plainB; rw [if_neg (by omega)]
    have := encs_le k (r.take m) HsT.out; rw [hlT.out] at this; omega
  have hz3 : (strOf P3).size ≤ 1000000 := by
    rw [hP3, strOf_size]; unfold plainB; rw [if_neg (by omega)]
    have := encs_le k (r.drop m) HsD.out; rw [hlD.out] at this; omega
  have hadd : ∀ w' : World, (Op.stringOp .add (strOf P2) (strOf P3)).run Try.prog w' = .ok (.string (strOf P1)) w' := fun w' => by
    rw [run_string_add w' _ _ (by omega) (by omega), hsum]
  clear hz2 hz3 hsum
  have hE1 := fun w' h => plainE_any k aoR nR capR r w' (by omega) hk4 HlR.out (by omega) Hs.out h
  have hE2 := fun w' h => plainE_any k aoR m capR (r.take m) w' (by omega) hk4 hlT.out (by omega) HsT.out h
  have hE3 := fun w' h => plainE_any k aD (nR - m) (capR - m) (r.drop m) w' (by omega) hk4 hlD.out (by omega) HsD.out h
  rw [← hP1] at hE1
  rw [← hP2] at hE2
  rw [← hP3] at hE3
  clear hP1 hP2 hP3
  have hss : ((strOf P1).toList == (strOf P1).toList) = true := by simp
  have HE1 := Lib.hid hE1; have HE2 := Lib.hid hE2; have HE3 := Lib.hid hE3
  clear hE1 hE2 hE3
  go_wp2_with fail
  refine (within_any _ _ _ (by omega) (by omega) hb1 hb2).mono ?_; rw [Hm.out]; rintro e x4 ⟨rfl, rfl⟩
  go_wp2
  refine wp_region_lin [(0, true), (1, true), (4, true), (5, true), (6, true), (7, true), (10, true), (11, true), (12, true), (13, true), (2, false), (3, true), (8, false), (9, true), (14, false), (15, true), (16, true), (17, true), (18, true)] (by kernel_rfl) (by kernel_rfl) (fun d _ _ _ _ h => by cases d <;> exact h) ?_
  repeat (first
    | (refine wpLin_skip rfl rfl (fun K hK => ?_); go_simp; refine hK _ ?_; clear hK K)
    | (refine wpLin_take (v := ?_) rfl rfl (fun w' hw' => ?_) (fun K hK => ?_); rotate_left; (go_simp; rfl); (go_simp; refine hK _ ?_; clear hK K)))
  refine wpLin_do rfl (fun K hK => ?_); go_simp
  refine (HE1.out _ hcR.drew).mono ?_
  rintro e y1 ⟨v, rfl, hf⟩
  obtain ⟨ao1, n1, cap1, rfl, Hn1, hc1, hz1, _⟩ := hf.u8
  have hy1 := bmore hx2 (Grows.toDrew hf.2)
  have cv1 := fun w' (hw' : Grows y1 w') => run_string_of (P := Try.prog) (cap := cap1) 29 5 9 Try.underlying29 Try.underlying5 Try.underlying9 Hn1.out.symm (hw'.cells hc1) hz1
  have g1 : Grows x2 y1 := Grows.toDrew hf.2
  refine hK _ _ hf.2 ?_; clear hK K hf
  repeat (first
    | (refine wpLin_skip rfl rfl (fun K hK => ?_); go_simp; refine hK _ ?_; clear hK K)
    | (refine wpLin_take (v := ?_) rfl rfl (fun w' hw' => ?_) (fun K hK => ?_); rotate_left; (go_simp; rfl); (go_simp; refine hK _ ?_; clear hK K)))
  refine wpLin_do rfl (fun K hK => ?_); go_simp
  refine (HE2.out _ (g1.cells hcT)).mono ?_
  rintro e y2 ⟨v, rfl, hf⟩
  obtain ⟨ao2, n2, cap2, rfl, Hn2, hc2, hz2, _⟩ := hf.u8
  have hy2 := bmore hy1 hf.2
  have cv2 := fun w' (hw' : Grows y2 w') => run_string_of (P := Try.prog) (cap := cap2) 29 5 9 Try.underlying29 Try.underlying5 Try.underlying9 Hn2.out.symm (hw'.cells hc2) hz2
  have g2 : Grows x2 y2 := g1.trans hf.2
  refine hK _ _ hf.2 ?_; clear hK K hf
  repeat (first
    | (refine wpLin_skip rfl rfl (fun K hK => ?_); go_simp; refine hK _ ?_; clear hK K)
    | (refine wpLin_take (v := ?_) rfl rfl (fun w' hw' => ?_) (fun K hK => ?_); rotate_left; (go_simp; rfl); (go_simp; refine hK _ ?_; clear hK K)))
  refine wpLin_do rfl (fun K hK => ?_); go_simp
  refine (HE3.out _ (g2.cells hcD)).mono ?_
  rintro e y3 ⟨v, rfl, hf⟩
  obtain ⟨ao3, n3, cap3, rfl, Hn3, hc3, hz3, _⟩ := hf.u8
  have hy3 := bmore hy2 hf.2
  have cv3 := fun w' (hw' : Grows y3 w') => run_string_of (P := Try.prog) (cap := cap3) 29 5 9 Try.underlying29 Try.underlying5 Try.underlying9 Hn3.out.symm (hw'.cells hc3) hz3
  refine hK _ _ hf.2 ?_; clear hK K hf
  repeat (first
    | (refine wpLin_skip rfl rfl (fun K hK => ?_); go_simp; refine hK _ ?_; clear hK K)
    | (refine wpLin_take (v := ?_) rfl rfl (fun w' hw' => ?_) (fun K hK => ?_); rotate_left; (go_simp; rfl); (go_simp; refine hK _ ?_; clear hK K)))
  refine wpLin_nil ?_
  go_wp2
  go_ret
  exact ⟨rfl, hy3⟩
end Go.Proofs.Ytailcciimbjpgaa
