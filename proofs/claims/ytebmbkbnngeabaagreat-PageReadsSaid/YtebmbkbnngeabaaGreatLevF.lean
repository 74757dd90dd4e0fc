/- Chapter 10: the walks over the document's same, run, Encode. -/
import Derived.Test.YtebmbkbnngeabaaGreatBunC
set_option linter.unusedSimpArgs false
namespace Go.Proofs.YtebmbkbnngeabaaGreat
open Go.RowKit
set_option linter.unusedVariables false
theorem getD_drop (l : List Nat) (m i : Nat) : (l.drop m).getD i 0 = l.getD (m + i) 0 := by simp [List.getD_eq_getElem?_getD]
set_option maxHeartbeats 1000000 in
set_option maxRecDepth 100000 in
theorem rsame_any (ao : Option Addr) (n cap at_ : Nat) (l : List Nat) (w : World) (hl : l.length = n) (hn : n ≤ 100000) (hat : at_ < n) (hc : CellsAt w w.heap.size ao n (nic l)) :
 Calls Tryz.prog 44 #[.slice ao n cap, .int .i64 (at_ : Nat)] w fun e w' => e = .returned (.int .i64 (sameN (l.drop at_) : Nat)) ∧ ∃ m, w' = w.drewN m := by
 have Hl := Lib.hid hl; clear hl
 obtain ⟨b, off, rfl, -, c0⟩ := hc at_ hat
 obtain ⟨y, hy⟩ : ∃ y, y = l.getD at_ 0 := ⟨_, rfl⟩
 rw [nic, ← hy] at c0
 have Hc := Lib.hid hc; have Hy := Lib.hid hy
 have e0 : (0 : Int) ≤ (at_ : Int) := by omega
 have e00 : (at_ : Int) < (n : Int) := by omega
 clear hc hy
 go_enter Tryz.func44, Tryz.ntmps44
 go_wp2
 go_loopw [5] (fun i wr => ∃ k m : Nat, 1 ≤ k ∧ at_ + k ≤ n ∧ i = .int .i64 k ∧ wr = w.drewN m ∧ Hid (∀ j, j < k → l.getD (at_ + j) 0 = l.getD at_ 0)) (fun i _ => n - (intOf i).toNat)
 case atStart => exact ⟨1, 0, Nat.le_refl _, by omega, rfl, rfl, Lib.hid (fun j hj => by rw [show j = 0 by omega]; rfl)⟩
 case round =>
  obtain ⟨k, m, hk1, hk, rfl, rfl, hsame⟩ := hrel
  obtain ⟨q, hq⟩ : ∃ q, q = at_ + k := ⟨_, rfl⟩
  have eq : (at_ : Int) + (k : Int) = (q : Int) := by omega
  have hq1 : q ≤ n := by omega
  have Hq := Lib.hid hq
  clear hq
  by_cases hlt : q < n
  · obtain ⟨_, _, e9, -, ck⟩ := Hc.out q hlt
    cases e9
    obtain ⟨x, hx⟩ : ∃ x, x = l.getD q 0 := ⟨_, rfl⟩
    rw [nic, ← hx] at ck
    have d1 : decide ((q : Int) < (n : Int)) = true := decide_eq_true (by omega)
    have e1 : (q : Int) < (n : Int) := by omega
    have e2 : (0 : Int) ≤ (q : Int) := by omega
    have Hx := Lib.hid hx
    clear hx
    by_cases hxy : x = y
    · have b1 : ((x : Int) == (y : Int)) = true := by rw [beq_iff_eq]; omega
      have hs : Hid (∀ j, j < k + 1 → l.getD (at_ + j) 0 = l.getD at_ 0) := Lib.hid (fun j hj => by
       by_cases h : j < k
       · exact hsame.out j h
       · obtain rfl : j = k := by omega
         rw [← Hq.out, ← Hx.out, ← Hy.out, hxy])
      have hk2 : at_ + (k + 1) ≤ n := by have := Hq.out; omega
      clear hxy
      go_wp2
      go_quiet (fail)
      go_wp2
      go_roundw
      case rel => exact ⟨k + 1, m + nq, by omega, hk2, by go_num, rfl, hs⟩
      case measure => simp [intOf]; omega
    · have b1 : ((x : Int) == (y : Int)) = false := by rw [beq_eq_false_iff_ne]; omega
      have hs : Hid (sameN (l.drop at_) = k) := Lib.hid (sameN_of _ k hk1 (by rw [List.length_drop, Hl.out]; omega) (fun i hi => by rw [getD_drop, getD_drop]; exact hsame.out i hi) (.inr (by rw [getD_drop, getD_drop, ← Hq.out, ← Hx.out, Nat.add_zero, ← Hy.out]; exact hxy)))
      clear hxy
      go_wp2
      go_quiet (fail)
      go_wp2
      go_ret
      exact ⟨by rw [hs.out]; rfl, m + nq, by simp⟩
  · have d1 : decide ((q : Int) < (n : Int)) = false := decide_eq_false (by omega)
    have hs : Hid (sameN (l.drop at_) = k) := Lib.hid (sameN_of _ k hk1 (by rw [List.length_drop, Hl.out]; omega) (fun i hi => by rw [getD_drop, getD_drop]; exact hsame.out i hi) (.inl (by rw [List.length_drop, Hl.out]; have := Hq.out; omega)))
    go_wp2
    go_quiet (fail)
    go_wp2
    go_ret
    exact ⟨by rw [hs.out]; rfl, m + nq, by simp⟩
set_option maxHeartbeats 1000000 in
theorem rrun_any (ao : Option Addr) (n cap at_ : Nat) (l : List Nat) (w : World) (hl : l.length = n) (hn : n ≤ 100000) (hat : at_ < n) (hc : CellsAt w w.heap.size ao n (nic l)) :
 Calls Tryz.prog 43 #[.slice ao n cap, .int .i64 (at_ : Nat)] w fun e w' => e = .returned (.bool (isRun (l.drop at_))) ∧ ∃ m, w' = w.drewN m := by
 have hR := fun w' h => rsame_any ao n cap at_ l w' hl hn hat h
 have hs := sameN_le (l.drop at_)
 have hi : isRun (l.drop at_) = decide (8 ≤ sameN (l.drop at_) ∨ at_ + sameN (l.drop at_) = n) := by
  unfold isRun
  rw [List.length_drop, hl]
  congr 1
  rw [eq_iff_iff]
  constructor
  · rintro (h | h)
    · exact .inl h
    · exact .inr (by omega)
  · rintro (h | h)
    · exact .inl h
    · exact .inr (by omega)
 rw [List.length_drop, hl] at hs
 obtain ⟨s, hse⟩ : ∃ s, s = sameN (l.drop at_) := ⟨_, rfl⟩
 rw [← hse] at hR hs hi
 rw [hi]
 clear hse hl hi
 have HR := Lib.hid hR; clear hR
 by_cases h8 : 8 ≤ s
 · have e1 : (8 : Int) ≤ (s : Int) := by omega
   go_enter Tryz.func43, Tryz.ntmps43
   go_wp2_with fail
   refine (HR.out _ hc).mono ?_
   rintro e x ⟨rfl, m, rfl⟩
   go_wp2
   go_ret
   exact ⟨by simp [h8], m, rfl⟩
 · have e1 : ¬ (8 : Int) ≤ (s : Int) := by omega
   by_cases hsn : at_ + s = n
   · have b1 : ((at_ : Int) + (s : Int) == (n : Int)) = true := by rw [beq_iff_eq]; omega
     have hd : decide (8 ≤ s ∨ at_ + s = n) = true := decide_eq_true (.inr hsn)
     have Hd := Lib.hid hd
     clear hsn hd h8
     go_enter Tryz.func43, Tryz.ntmps43
     go_wp2_with fail
     refine (HR.out _ hc).mono ?_
     rintro e x ⟨rfl, m, rfl⟩
     go_wp2
     go_ret
     exact ⟨by rw [Hd.out]; simp_all, m, rfl⟩
   · have b1 : ((at_ : Int) + (s : Int) == (n : Int)) = false := by rw [beq_eq_false_iff_ne]; omega
     have hd : decide (8 ≤ s ∨ at_ + s = n) = false := decide_eq_false (by omega)
     have Hd := Lib.hid hd
     clear hsn hd h8
     go_enter Tryz.func43, Tryz.ntmps43
     go_wp2_with fail
     refine (HR.out _ hc).mono ?_
     rintro e x ⟨rfl, m, rfl⟩
     go_wp2
     go_ret
     exact ⟨by rw [Hd.out]; simp_all, m, rfl⟩
theorem pad8_lt (l : List Nat) (k : Nat) (h : k < l.length) (h8 : k < 8) : (pad8 l).getD k 0 = l.getD k 0 := by
 simp only [pad8, List.getD_eq_getElem?_getD]
 rw [List.getElem?_append_left (by rw [List.length_take]; omega), List.getElem?_take_of_lt h8]
theorem pad8_ge (l : List Nat) (k : Nat) (h : l.length ≤ k) (h8 : k < 8) : (pad8 l).getD k 0 = 0 := by
 simp only [pad8, List.getD_eq_getElem?_getD]
 rw [List.getElem?_append_right (by rw [List.length_take]; omega), List.getElem?_replicate]
 split <;> rfl
theorem pad8_take (l : List Nat) (k : Nat) (h8 : k < 8) : (pad8 l).take (k + 1) = (pad8 l).take k ++ [(pad8 l).getD k 0] := by
 have hk : k < (pad8 l).length := by rw [pad8_length]; exact h8
 rw [List.take_succ_eq_append_getElem hk, List.getD_eq_getElem?_getD, List.getElem?_eq_getElem hk]; rfl
set_option maxHeartbeats 400000 in
theorem rlevE_zero (ao : Option Addr) (n cap : Nat) (w : World) (hn : n ≤ 100000) :
 Calls Tryz.prog 17 #[.slice ao n cap, .int .i64 0] w (GaveB w []) := by
 have key : GaveB w [] (.returned (.slice none 0 0)) w := ⟨none, 0, rfl, CellsAt.zero, fun _ => rfl, ⟨rfl, .inl ⟨rfl, rfl⟩⟩, Below.refl _ _⟩
 have Key := Lib.hid key; clear key
 by_cases h0 : 0 < n
 · have d0 : decide ((0 : Int) < (n : Int)) = true := decide_eq_true (by omega)
   go_enter Tryz.func17, Tryz.ntmps17
   go_wp2
   go_loopw [5, 6] (fun o i x => o = .slice none 0 0 ∧ i = .int .i64 0 ∧ x = w) (fun _ _ _ => 0)
   case atStart => exact ⟨rfl, rfl, rfl⟩
   case round =>
    obtain ⟨rfl, rfl, rfl⟩ := hrel
    go_wp2
    go_ret
    exact Key.out
 · obtain rfl : n = 0 := by omega
   go_enter Tryz.func17, Tryz.ntmps17
   go_wp2
   go_loopw [5, 6] (fun o i x => o = .slice none 0 0 ∧ i = .int .i64 0 ∧ x = w) (fun _ _ _ => 0)
   case atStart => exact ⟨rfl, rfl, rfl⟩
   case round =>
    obtain ⟨rfl, rfl, rfl⟩ := hrel
    go_wp2
    go_ret
    exact Key.out
set_option maxHeartbeats 16000000 in
set_option maxRecDepth 100000 in
theorem rlevE_in (ao : Option Addr) (n cap wd : Nat) (l : List Nat) (w : World) (hl : l.length = n) (hn : n ≤ 100000) (hc : CellsAt w w.heap.size ao n (nic l)) (hb : ∀ x ∈ l, x < 18446744073709551616) (h1 : 1 ≤ wd) (h16 : wd ≤ 16) :
 Calls Tryz.prog 17 #[.slice ao n cap, .int .i64 (wd : Nat)] w (GaveB w (levB wd l)) := by
 have Hl := Lib.hid hl; clear hl
 have Hb := Lib.hid hb; clear hb
 have Hc := Lib.hid hc; clear hc
 have d9 : decide ((0 : Int) < (wd : Int)) = true := decide_eq_true (by omega)
 go_enter Tryz.func17, Tryz.ntmps17
 go_wp2
 go_loopw [5, 6] (fun o i wq => ∃ (pre : List Nat) (at_ nO : Nat) (aoO : Option Addr) (capO : Nat), at_ ≤ n ∧ o = .slice aoO nO capO ∧ i = .int .i64 (at_ : Nat) ∧ Hid (RowB wq w.heap.size aoO nO capO pre) ∧ Hid (levB wd l = pre ++ levB wd (l.drop at_)) ∧ Hid (Below w.heap.size w wq)) (fun _ i _ => n - (intOf i).toNat)
 case atStart => exact ⟨[], 0, 0, none, 0, Nat.zero_le _, rfl, rfl, Lib.hid ⟨rfl, .inl ⟨rfl, rfl⟩⟩, Lib.hid rfl, Lib.hid (Below.refl _ _)⟩
 case round =>
  obtain ⟨pre, at_, nO, aoO, capO, hat, rfl, rfl, hrO, hlev, hwr⟩ := hrel
  obtain ⟨wq, hwq⟩ : ∃ x, x = wr := ⟨_, rfl⟩
  subst hwq
  have hnO : nO ≤ 2600000 := by have h1 := pre_le h16 hlev.out; have h2 := hrO.out.1; have h3 := Hl.out; omega
  by_cases hlt : at_ < n
  · have e1 : decide ((at_ : Int) < (n : Int)) = true := decide_eq_true (by omega)
    obtain ⟨rest, hrest⟩ : ∃ rest, rest = l.drop at_ := ⟨_, rfl⟩
    have hne0 : rest ≠ [] := fun e => by
     have h := congrArg List.length (hrest.symm.trans e)
     rw [List.length_drop, Hl.out] at h
     simp at h; omega
    have Hrest := Lib.hid hrest
    have hlevR : Hid (levB wd l = pre ++ levB wd rest) := Lib.hid (by rw [hlev.out, hrest])
    have HRun := Lib.hid (fun (w' : World) h => rrun_any ao n cap at_ l w' Hl.out hn hlt h)
    have HSame := Lib.hid (fun (w' : World) h => rsame_any ao n cap at_ l w' Hl.out hn hlt h)
    rw [← hrest] at HRun HSame
    have Hne := Lib.hid hne0
    have hrl : Hid (rest.length = n - at_) := Lib.hid (by rw [hrest, List.length_drop, Hl.out])
    clear hrest hlev hne0
    cases hrunf : isRun rest with
    | true =>
     rw [hrunf] at HRun
     have hs0 := sameN_pos rest Hne.out
     have hs1 := sameN_le rest
     rw [hrl.out] at hs1
     have hlv := levB_run wd rest Hne.out hrunf
     obtain ⟨x0, hx0⟩ : ∃ x, x = rest.getD 0 0 := ⟨_, rfl⟩
     obtain ⟨s, hs⟩ : ∃ s, s = sameN rest := ⟨_, rfl⟩
     rw [← hs] at hs0 hs1 hlv HSame
     rw [← hx0] at hlv
     obtain ⟨b, off, rfl, hbl, c0⟩ := Hc.out at_ hlt
     have hx0l : x0 = l.getD at_ 0 := by rw [hx0, Hrest.out, getD_drop]; rfl
     rw [nic, ← hx0l] at c0
     have hx64 : x0 < 18446744073709551616 := by
      rw [hx0l, List.getD_eq_getElem?_getD, List.getElem?_eq_getElem (by rw [Hl.out]; omega)]; exact Hb.out _ (List.getElem_mem _)
     have C0 := Lib.hid c0; have Hbl := Lib.hid hbl
     have hw0 : IntKind.u64.wrap (x0 : Int) = (x0 : Nat) := IntWalk.u64_in _ (by omega)
     have hw1 : IntKind.i64.wrap (2 * (s : Int)) = 2 * (s : Int) := IntWalk.i64_in _ (by omega)
     have hw2 : IntKind.u64.wrap (2 * (s : Int)) = 2 * (s : Int) := IntWalk.u64_in _ (by omega)
     obtain ⟨k7, hk7⟩ : ∃ k7, k7 = (wd + 7) / 8 := ⟨_, rfl⟩
     have hw6 : IntKind.i64.wrap ((wd : Int) + 7) = (wd : Int) + 7 := IntWalk.i64_in _ (by omega)
     have hw7 : ((wd : Int) + 7).tdiv 8 = (k7 : Int) := by rw [Int.tdiv_eq_ediv_of_nonneg (by omega)]; omega
     have hw8 : IntKind.i64.wrap (k7 : Int) = (k7 : Int) := IntWalk.i64_in _ (by omega)
     have hwb : k7 ≤ 2 := by omega
     rw [← hk7] at hlv
     have e00 : (0 : Int) ≤ (at_ : Int) := by omega
     have e01 : (at_ : Int) < (n : Int) := by omega
     have hst : Hid (levB wd l = (pre ++ (vputB (2 * s) ++ lowB x0 k7)) ++ levB wd (l.drop (at_ + s))) := Lib.hid (by
      rw [hlevR.out, hlv, Hrest.out, List.drop_drop]; simp only [List.append_assoc])
     clear hx0 hs hlv c0 hx0l hbl hrunf hk7
     go_wp2_with fail
     refine (HRun.out _ (Hc.out.at hwr.out)).mono ?_
     rintro e W ⟨rfl, hW⟩
     have hW := below_of_drew hW
     go_wp2_with fail
     refine (HSame.out _ (Hc.out.at (bmore hwr.out hW))).mono ?_
     rintro e W2 ⟨rfl, hW2⟩
     have hW2 := bmore hW (below_of_drew hW2)
     have hrO2 := hrO.out.below hW2
     have c2 := ((bmore hwr.out hW2).cell (by exact Hbl.out)).trans C0.out
     have f0 : ∀ w', Grows W2.drew w' → w'.cell? ⟨b, off + at_, none⟩ = some (.int .i64 (x0 : Nat)) := fun w' hg => (Grows.toDrew hg).cell c2
     have hP := fun w' h1 h2 h3 h4 h5 => rvput_any aoO nO capO pre (2 * s) w' h1 h2 h3 h4 h5
     rw [show ((2 * s : Nat) : Int) = 2 * (s : Int) by omega] at hP
     have HP := Lib.hid hP; have HW2 := Lib.hid hW2; have HrO2 := Lib.hid hrO2
     clear hP hW hW2 c2 hrO2
     go_wp2
     refine wp_region_linH [(0, 0), (1, 0), (2, 0), (3, 0), (5, 0), (6, 0), (7, 0), (8, 0), (9, 0), (10, 0), (11, 0), (12, 0), (4, 1), (13, 1), (14, 0)] [] (by kernel_rfl) (by kernel_rfl) (fun d _ _ _ _ h => by cases d <;> exact h) ?_
     repeat (first
      | (refine wpLinH_skip rfl rfl (fun K hK => ?_); go_simp; refine hK _ ?_; clear hK K)
      | (refine wpLinH_take (v := ?_) rfl rfl (fun w' hw' => ?_) (fun K hK => ?_); rotate_left; (go_simp; rfl); (go_simp; refine hK _ ?_; clear hK K)))
     refine wpLinH_do rfl (fun K hK => ?_); go_simp
     refine (HP.out _ HrO2.out.1 HrO2.out.drew.cells HrO2.out.nil0 (by omega) (by omega)).mono ?_
     intro e y1 hgv
     obtain ⟨aoV, nV, capV, rfl, HnV, hcV, hnV, hrV, hbV⟩ := hgv.opened
     refine hK _ _ hbV ?_; clear hK K f0 hgv
     have hvl : nV ≤ nO + 10 := by
      have h1 := vputB_le (2 * s)
      have h2 := HrO2.out.1
      rw [← HnV.out, List.length_append]; omega
     refine wpLinH_do rfl (fun K hK => ?_); go_simp
     refine (rput_n aoV nV capV (pre ++ vputB (2 * s)) (k7 : Int) k7 x0 _ HnV.out hcV hnV (by omega) hx64 (.inr ⟨rfl, by omega⟩)).mono ?_
     intro e y3 hgz
     obtain ⟨aoZ, nZ, capZ, rfl, HnZ, hcZ, hnZ, hrZ, hbZ⟩ := hgz.opened
     refine hK _ _ hbZ ?_; clear hK K hgz
     have hy3 : Below wq.heap.size wq y3 := bmore (HW2.out.trans ((Grows.toDrew hbV).mono HW2.out.size)) hbZ
     have hrZ2 := hrZ.base (Nat.le_trans hwr.out.size (Nat.le_trans HW2.out.size hbV.size))
     rw [List.append_assoc] at hrZ2
     have HrZ := Lib.hid hrZ2; have Hy3 := Lib.hid (bmore hwr.out hy3)
     clear hcV hnV hrV hbV hcZ hnZ hrZ hbZ hy3 hrZ2
     repeat (first
      | (refine wpLinH_skip rfl rfl (fun K hK => ?_); go_simp; refine hK _ ?_; clear hK K)
      | (refine wpLinH_take (v := ?_) rfl rfl (fun w' hw' => ?_) (fun K hK => ?_); rotate_left; (go_simp; rfl); (go_simp; refine hK _ ?_; clear hK K)))
     refine wpLinH_nil ?_
     go_wp2
     go_roundw
     case rel => exact ⟨pre ++ (vputB (2 * s) ++ lowB x0 k7), at_ + s, _, _, _, by omega, rfl, by go_num, HrZ, hst, Hy3⟩
     case measure => simp [intOf]; omega
    | false =>
     rw [hrunf] at HRun
     have hgr0 := levB_grp wd rest Hne.out hrunf
     have Hgr0 := Lib.hid hgr0
     clear hgr0 hrunf
     go_wp2_with fail
     refine (HRun.out _ (Hc.out.at hwr.out)).mono ?_
     rintro e W ⟨rfl, hW⟩
     have hW := Lib.hid (below_of_drew hW)
     go_wp2
     go_loopw [6, 8] (fun i gv x => ∃ (at2 nG : Nat) (gp : List Nat), at_ ≤ at2 ∧ at2 < n ∧ i = .int .i64 (at2 : Nat) ∧ nG ≤ 8 * (at2 - at_) ∧ Hid (x.ownsRow wq.heap.size 61 1 gv nG (u64v gp)) ∧ Hid (grps rest = (gp ++ (grps (l.drop at2)).1, (grps (l.drop at2)).2)) ∧ Hid (Below wq.heap.size wq x)) (fun i _ _ => n - (intOf i).toNat)
     case atStart => exact ⟨at_, 0, [], Nat.le_refl _, hlt, rfl, by omega, Lib.hid (World.ownsRow_nil _ _ _ _), Lib.hid (by rw [← Hrest.out]; rfl), hW⟩
     case round =>
      clear hW
      obtain ⟨at2, nG, gp, hat2, hlt2, rfl, hnG, hown, hgrp, hbx⟩ := hrel
      obtain ⟨x, hxx⟩ : ∃ x, x = wr := ⟨_, rfl⟩
      subst hxx
      have hnG2 : nG ≤ 800000 := by omega
      go_wp2
      go_loopw [8, 9, 10] (fun gv kk v z => ∃ (k nK : Nat) (aoG : Option Addr) (capG : Nat), k ≤ 8 ∧ gv = .slice aoG nK capG ∧ kk = .int .i64 (k : Nat) ∧ Hid (nK = nG + k) ∧ nK ≤ 800008 ∧ Hid (z.ownsRow wq.heap.size 61 1 (.slice aoG nK capG) nK (u64v (gp ++ (pad8 (l.drop at2)).take k))) ∧ Hid (Below wq.heap.size wq z)) (fun _ kk _ _ => 8 - (intOf kk).toNat)
      case atStart =>
       obtain ⟨aoG, capG, he, -, -⟩ := own_u64 hown.out
       exact ⟨0, nG, aoG, capG, by decide, he, rfl, Lib.hid rfl, by omega, Lib.hid (by rw [← he]; simpa using hown.out), hbx⟩
      case round =>
       clear hown hbx
       obtain ⟨k, nK, aoG, capG, hk, rfl, rfl, hnK, hnK2, hown, hbz⟩ := hrel
       obtain ⟨z, hzz⟩ : ∃ x, x = wr := ⟨_, rfl⟩
       subst hzz
       by_cases hk8 : k < 8
       · have e2 : (k : Int) < 8 := by omega
         obtain ⟨q, hq⟩ : ∃ q, q = at2 + k := ⟨_, rfl⟩
         have eq : (at2 : Int) + (k : Int) = (q : Int) := by omega
         have hq2 : q ≤ 100008 := by omega
         have Hq := Lib.hid hq
         have hns := hbz.out.size
         clear hq
         by_cases hqn : q < n
         · have e3 : (q : Int) < (n : Int) := by omega
           have e4 : (0 : Int) ≤ (q : Int) := by omega
           obtain ⟨b, off, rfl, hbl, c0⟩ := Hc.out q hqn
           obtain ⟨x, hx⟩ : ∃ x, x = l.getD q 0 := ⟨_, rfl⟩
           rw [nic, ← hx] at c0
           have hx64 : x < 18446744073709551616 := by
            rw [hx, List.getD_eq_getElem?_getD, List.getElem?_eq_getElem (by rw [Hl.out]; omega)]; exact Hb.out _ (List.getElem_mem _)
           have hpx : Hid ((pad8 (l.drop at2)).getD k 0 = x) := Lib.hid (by rw [pad8_lt _ _ (by rw [List.length_drop, Hl.out]; have := Hq.out; omega) hk8, getD_drop, ← Hq.out, hx])
           have c2 := (hbz.out.cell (show b < wq.heap.size from Nat.lt_of_lt_of_le hbl hwr.out.size)).trans ((hwr.out.cell (by exact hbl)).trans c0)
           have hw0 : IntKind.u64.wrap (x : Int) = (x : Nat) := IntWalk.u64_in _ (by omega)
           have hownA := hown.out.alloc (.cells #[.int .u64 (x : Int)] 61)
           have hsA : wq.heap.size ≤ (z.alloc (.cells #[.int .u64 (x : Int)] 61)).heap.size := by simp; omega
           clear hx c0 hbl
           go_wp2_with (at_builtin; refine wpList_append_all1 sl_u64 rfl (.tmp 58) (.tmp 61) rfl rfl hownA rfl (cells_alloc _ _ _ 1 (fun _ => .int .u64 (x : Nat)) (fun i hi => by (obtain rfl : i = 0 := (by omega)); rfl)) (fun h => by cases h) (fun _ _ => rfl) (by unfold maxLen; omega) (by omega) hsA ?_)
           intro v2 z2 hown2 hgrow2
           have hz2 : Below wq.heap.size wq z2 := (hbz.out.alloc hns _).grown hgrow2 hsA (fun k hk => (hownA.lt k hk).1)
           have hown3 : z2.ownsRow wq.heap.size 61 1 v2 (nK + 1) (u64v (gp ++ (pad8 (l.drop at2)).take (k + 1))) := by
            rw [pad8_take _ _ hk8, ← List.append_assoc, hpx.out, ← u64v_append]
            exact hown2
           obtain ⟨aoH, capH, rfl, -, -⟩ := own_u64 hown3
           have H3 := Lib.hid hown3; have Hz2 := Lib.hid hz2
           clear hown2 hgrow2 hown3 hz2 hownA hsA
           go_wp2
           go_roundw
           case rel => exact ⟨k + 1, nK + 1, aoH, capH, by omega, rfl, by go_num, Lib.hid (by rw [hnK.out]; rfl), by have := hnK.out; omega, H3, Hz2⟩
           case measure => simp [intOf]; omega
         · have e3 : ¬ (q : Int) < (n : Int) := by omega
           have hpx : Hid ((pad8 (l.drop at2)).getD k 0 = 0) := Lib.hid (pad8_ge _ _ (by rw [List.length_drop, Hl.out]; have := Hq.out; omega) hk8)
           have hownA := hown.out.alloc (.cells #[.int .u64 (0 : Int)] 61)
           have hsA : wq.heap.size ≤ (z.alloc (.cells #[.int .u64 (0 : Int)] 61)).heap.size := by simp; omega
           go_wp2_with (at_builtin; refine wpList_append_all1 sl_u64 rfl (.tmp 58) (.tmp 61) rfl rfl hownA rfl (cells_alloc _ _ _ 1 (fun _ => .int .u64 ((0 : Nat) : Int)) (fun i hi => by (obtain rfl : i = 0 := (by omega)); rfl)) (fun h => by cases h) (fun _ _ => rfl) (by unfold maxLen; omega) (by omega) hsA ?_)
           intro v2 z2 hown2 hgrow2
           have hz2 : Below wq.heap.size wq z2 := (hbz.out.alloc hns _).grown hgrow2 hsA (fun k hk => (hownA.lt k hk).1)
           have hown3 : z2.ownsRow wq.heap.size 61 1 v2 (nK + 1) (u64v (gp ++ (pad8 (l.drop at2)).take (k + 1))) := by
            rw [pad8_take _ _ hk8, ← List.append_assoc, hpx.out, ← u64v_append]
            exact hown2
           obtain ⟨aoH, capH, rfl, -, -⟩ := own_u64 hown3
           have H3 := Lib.hid hown3; have Hz2 := Lib.hid hz2
           clear hown2 hgrow2 hown3 hz2 hownA hsA
           go_wp2
           go_roundw
           case rel => exact ⟨k + 1, nK + 1, aoH, capH, by omega, rfl, by go_num, Lib.hid (by rw [hnK.out]; rfl), by have := hnK.out; omega, H3, Hz2⟩
           case measure => simp [intOf]; omega
       · obtain rfl : k = 8 := by omega
         have hp8 : (pad8 (l.drop at2)).take 8 = pad8 (l.drop at2) := List.take_of_length_le (by rw [pad8_length]; exact Nat.le_refl _)
         have hown8 := hown.out
         rw [hp8] at hown8
         have Hown := Lib.hid hown8
         obtain ⟨at3, hat3⟩ : ∃ at3, Hid (at3 = min (at2 + 8) n) := ⟨_, Lib.hid rfl⟩
         have hat3n : at3 ≤ n ∧ at2 < at3 ∧ at3 ≤ at2 + 8 := by have h1 := hat3.out; omega
         have hmin := fun (w' : World) => run_min_int2 (P := Tryz.prog) (w := w') #[3, 3] 3 .i64 ((at2 : Int) + 8) (n : Int) (at3 : Int) (by have h1 := hat3.out; omega)
         have hd8 : Hid (l.drop at3 = (l.drop at2).drop 8) := Lib.hid (by
          rw [List.drop_drop]
          rcases Nat.le_total (at2 + 8) n with h | h
          · rw [hat3.out, Nat.min_eq_left h]
          · rw [hat3.out, Nat.min_eq_right h, List.drop_of_length_le (by rw [Hl.out]; exact Nat.le_refl _), List.drop_of_length_le (by rw [Hl.out]; exact h)])
         clear hp8 hown8 hown
         by_cases hend : at3 = n
         · have b3 : ((at3 : Int) == (n : Int)) = true := by rw [beq_iff_eq]; omega
           have hgE : Hid (grps rest = (gp ++ pad8 (l.drop at2), l.drop at3)) := Lib.hid (by
            rw [hgrp.out, grps_last (l.drop at2) (.inl (by rw [← hd8.out, hend]; exact List.drop_of_length_le (by rw [Hl.out]; exact Nat.le_refl _))), hd8.out])
           clear hend
           obtain ⟨zF, hzF⟩ : ∃ zF, zF = z := ⟨_, rfl⟩
           subst hzF
           have HzF := hbz
           have hgl : Hid ((gp ++ pad8 (l.drop at2)).length = nK) := Lib.hid (by have h := Hown.out.1; rw [u64v_length, Nat.mul_one] at h; exact h)
           have hpl : Hid (packedAny (gp ++ pad8 (l.drop at2)) wd = packed (gp ++ pad8 (l.drop at2)) wd) := Lib.hid (by unfold packedAny; rw [if_pos (by omega), Int.toNat_natCast])
           have hst : Hid (levB wd l = (pre ++ (vputB (2 * (nK / 8) + 1) ++ packed (gp ++ pad8 (l.drop at2)) wd)) ++ levB wd (l.drop at3)) := Lib.hid (by
            rw [hlevR.out, Hgr0.out, hgE.out]
            simp only [hgl.out, List.append_assoc])
           have hgb : Hid (∀ y ∈ gp ++ pad8 (l.drop at2), y < 18446744073709551616) := Lib.hid (fun y hy => by
            have h2 : y ∈ (grps rest).1 := by rw [hgE.out]; exact hy
            exact grps_mem rest Hne.out (fun z hz => Hb.out z (by rw [Hrest.out] at hz; exact List.mem_of_mem_drop hz)) y h2)
           have hrO1 := hrO.out.below HzF.out
           have e6 : ((2 * (nK / 8) + 1 : Nat) : Int) = 2 * ((nK : Int) / 8) + 1 := by omega
           have hP := fun w' h1 h2 h3 h4 h5 => rvput_any aoO nO capO pre (2 * (nK / 8) + 1) w' h1 h2 h3 h4 h5
           rw [e6] at hP
           go_wp2_with fail
           refine (hP _ hrO1.1 hrO1.cells hrO1.nil0 (by omega) (by omega)).mono ?_
           intro e y1 hgv
           obtain ⟨aoV, nV, capV, rfl, HnV, hcV, hnV, hrV, hbV⟩ := hgv.opened
           have hownH := own_below Hown.out hbV
           obtain ⟨aoH2, capH2, hsl, hcH, -⟩ := own_u64 hownH
           simp only [Value.slice.injEq, true_and] at hsl
           obtain ⟨rfl, rfl⟩ := hsl
           have hvl : nV ≤ nO + 10 := by
            have h1 := vputB_le (2 * (nK / 8) + 1)
            have h2 := hrO1.1
            rw [← HnV.out, List.length_append]; omega
           have hy1 := bmore HzF.out hbV
           clear hP hrO1 hcV hnV e6
           go_wp2_with fail
           refine (rpack_any aoG nK capG (wd : Nat) (gp ++ pad8 (l.drop at2)) _ hgl.out (by omega) hgb.out hcH).mono ?_
           rw [hpl.out]
           rintro e y2 ⟨v3, rfl, hf3⟩
           obtain ⟨aoK, capK, hv3, hlK, hcK, hzK⟩ := own_u8c hf3.1
           subst hv3
           have hy2 := bmore hy1 hf3.2
           have hrV2 := hrV.below hf3.2
           obtain ⟨nP, hnP⟩ : ∃ nP, nP = (u8v (packed (gp ++ pad8 (l.drop at2)) wd)).length := ⟨_, rfl⟩
           rw [← hnP] at hcK hzK hlK ⊢
           have hkl : nP ≤ 16 * 800008 := by
            rw [← hlK, packed_length, hgl.out]; unfold packSize
            have : nK * wd ≤ 800008 * 16 := Nat.mul_le_mul hnK2 h16
            omega
           have HlK := Lib.hid hlK
           have hsx : zF.heap.size ≤ y2.heap.size := Nat.le_trans hbV.size hf3.2.size
           clear hf3 hcH hownH hnP hlK
           go_wp2_with (at_builtin; refine wpList_append_rowB rfl (.tmp 84) (.tmp 87) rfl rfl hrV2 rfl HlK.out hcK hzK (by omega) hsx ?_)
           intro aoZ capZ y3 hrZ hbZ hsZ
           have hy3 : Below wq.heap.size wq y3 := hy2.trans (hbZ.mono (Nat.le_trans HzF.out.size (Nat.le_refl _)))
           have hrZ2 := hrZ.base (Nat.le_trans hwr.out.size HzF.out.size)
           have HrZ := Lib.hid hrZ2; have Hy3 := Lib.hid (bmore hwr.out hy3)
           clear hrZ hbZ hsZ hy3 hy2 hy1 hrV hrV2 hcK hzK hbV hrZ2
           go_wp2
           go_roundw
           case rel => exact ⟨pre ++ (vputB (2 * (nK / 8) + 1) ++ packed (gp ++ pad8 (l.drop at2)) wd), at3, _, _, _, by omega, rfl, rfl, HrZ, hst, Hy3⟩
           case measure => simp [intOf]; omega
         · have b3 : ((at3 : Int) == (n : Int)) = false := by rw [beq_eq_false_iff_ne]; omega
           have hlt3 : at3 < n := by omega
           have HRun3 := Lib.hid (fun (w' : World) h => rrun_any ao n cap at3 l w' Hl.out hn hlt3 h)
           cases hrun3 : isRun (l.drop at3) with
           | true =>
            rw [hrun3] at HRun3
            have hgE : Hid (grps rest = (gp ++ pad8 (l.drop at2), l.drop at3)) := Lib.hid (by
             rw [hgrp.out, grps_last (l.drop at2) (.inr (by rw [← hd8.out]; exact hrun3)), hd8.out])
            clear hend hrun3
            go_wp2_with fail
            refine (HRun3.out _ (Hc.out.at (bmore hwr.out hbz.out))).mono ?_
            rintro e zF ⟨rfl, hzF⟩
            have hzF := below_of_drew hzF
            have HzF := Lib.hid (bmore hbz.out hzF)
            have hownF := own_below Hown.out hzF
            clear Hown
            have Hown := Lib.hid hownF
            clear hownF hzF
            have hgl : Hid ((gp ++ pad8 (l.drop at2)).length = nK) := Lib.hid (by have h := Hown.out.1; rw [u64v_length, Nat.mul_one] at h; exact h)
            have hpl : Hid (packedAny (gp ++ pad8 (l.drop at2)) wd = packed (gp ++ pad8 (l.drop at2)) wd) := Lib.hid (by unfold packedAny; rw [if_pos (by omega), Int.toNat_natCast])
            have hst : Hid (levB wd l = (pre ++ (vputB (2 * (nK / 8) + 1) ++ packed (gp ++ pad8 (l.drop at2)) wd)) ++ levB wd (l.drop at3)) := Lib.hid (by
             rw [hlevR.out, Hgr0.out, hgE.out]
             simp only [hgl.out, List.append_assoc])
            have hgb : Hid (∀ y ∈ gp ++ pad8 (l.drop at2), y < 18446744073709551616) := Lib.hid (fun y hy => by
             have h2 : y ∈ (grps rest).1 := by rw [hgE.out]; exact hy
             exact grps_mem rest Hne.out (fun z hz => Hb.out z (by rw [Hrest.out] at hz; exact List.mem_of_mem_drop hz)) y h2)
            have hrO1 := hrO.out.below HzF.out
            have e6 : ((2 * (nK / 8) + 1 : Nat) : Int) = 2 * ((nK : Int) / 8) + 1 := by omega
            have hP := fun w' h1 h2 h3 h4 h5 => rvput_any aoO nO capO pre (2 * (nK / 8) + 1) w' h1 h2 h3 h4 h5
            rw [e6] at hP
            go_wp2_with fail
            refine (hP _ hrO1.1 hrO1.cells hrO1.nil0 (by omega) (by omega)).mono ?_
            intro e y1 hgv
            obtain ⟨aoV, nV, capV, rfl, HnV, hcV, hnV, hrV, hbV⟩ := hgv.opened
            have hownH := own_below Hown.out hbV
            obtain ⟨aoH2, capH2, hsl, hcH, -⟩ := own_u64 hownH
            simp only [Value.slice.injEq, true_and] at hsl
            obtain ⟨rfl, rfl⟩ := hsl
            have hvl : nV ≤ nO + 10 := by
             have h1 := vputB_le (2 * (nK / 8) + 1)
             have h2 := hrO1.1
             rw [← HnV.out, List.length_append]; omega
            have hy1 := bmore HzF.out hbV
            clear hP hrO1 hcV hnV e6
            go_wp2_with fail
            refine (rpack_any aoG nK capG (wd : Nat) (gp ++ pad8 (l.drop at2)) _ hgl.out (by omega) hgb.out hcH).mono ?_
            rw [hpl.out]
            rintro e y2 ⟨v3, rfl, hf3⟩
            obtain ⟨aoK, capK, hv3, hlK, hcK, hzK⟩ := own_u8c hf3.1
            subst hv3
            have hy2 := bmore hy1 hf3.2
            have hrV2 := hrV.below hf3.2
            obtain ⟨nP, hnP⟩ : ∃ nP, nP = (u8v (packed (gp ++ pad8 (l.drop at2)) wd)).length := ⟨_, rfl⟩
            rw [← hnP] at hcK hzK hlK ⊢
            have hkl : nP ≤ 16 * 800008 := by
             rw [← hlK, packed_length, hgl.out]; unfold packSize
             have : nK * wd ≤ 800008 * 16 := Nat.mul_le_mul hnK2 h16
             omega
            have HlK := Lib.hid hlK
            have hsx : zF.heap.size ≤ y2.heap.size := Nat.le_trans hbV.size hf3.2.size
            clear hf3 hcH hownH hnP hlK
            go_wp2_with (at_builtin; refine wpList_append_rowB rfl (.tmp 84) (.tmp 87) rfl rfl hrV2 rfl HlK.out hcK hzK (by omega) hsx ?_)
            intro aoZ capZ y3 hrZ hbZ hsZ
            have hy3 : Below wq.heap.size wq y3 := hy2.trans (hbZ.mono (Nat.le_trans HzF.out.size (Nat.le_refl _)))
            have hrZ2 := hrZ.base (Nat.le_trans hwr.out.size HzF.out.size)
            have HrZ := Lib.hid hrZ2; have Hy3 := Lib.hid (bmore hwr.out hy3)
            clear hrZ hbZ hsZ hy3 hy2 hy1 hrV hrV2 hcK hzK hbV hrZ2
            go_wp2
            go_roundw
            case rel => exact ⟨pre ++ (vputB (2 * (nK / 8) + 1) ++ packed (gp ++ pad8 (l.drop at2)) wd), at3, _, _, _, by omega, rfl, rfl, HrZ, hst, Hy3⟩
            case measure => simp [intOf]; omega
           | false =>
            rw [hrun3] at HRun3
            have hgM : Hid (grps rest = ((gp ++ pad8 (l.drop at2)) ++ (grps (l.drop at3)).1, (grps (l.drop at3)).2)) := Lib.hid (by
             rw [hgrp.out, grps_more (l.drop at2) (by rw [← hd8.out, hrun3]; simp [List.drop_eq_nil_iff, Hl.out]; omega), hd8.out, List.append_assoc])
            clear hend hrun3
            go_wp2_with fail
            refine (HRun3.out _ (Hc.out.at (bmore hwr.out hbz.out))).mono ?_
            rintro e zF ⟨rfl, hzF⟩
            have hzF := below_of_drew hzF
            have HzF := Lib.hid (bmore hbz.out hzF)
            have HownF := Lib.hid (own_below Hown.out hzF)
            clear hzF
            go_wp2
            go_roundw
            case rel => exact ⟨at3, nK, gp ++ pad8 (l.drop at2), by omega, hlt3, rfl, by have := hnK.out; omega, HownF, hgM, HzF⟩
            case measure => simp [intOf]; omega
  · obtain rfl : at_ = n := by omega
    have e1 : decide ((at_ : Int) < (at_ : Int)) = false := decide_eq_false (by omega)
    have hfin : Hid (levB wd l = pre) := Lib.hid (by rw [hlev.out, List.drop_of_length_le (by rw [Hl.out]; exact Nat.le_refl _), levB_nil, List.append_nil])
    go_wp2
    go_ret
    rw [hfin.out]
    exact GaveB.of hrO.out.1.symm hrO.out hwr.out
theorem rlevE_any (ao : Option Addr) (n cap wd : Nat) (l : List Nat) (w : World) (hl : l.length = n) (hn : n ≤ 100000) (hc : CellsAt w w.heap.size ao n (nic l)) (hb : ∀ x ∈ l, x < 18446744073709551616) (h16 : wd ≤ 16) :
 Calls Tryz.prog 17 #[.slice ao n cap, .int .i64 (wd : Nat)] w (GaveB w (levAny l wd)) := by
 unfold levAny
 by_cases h : wd = 0
 · subst h
   rw [if_pos (by omega)]; exact rlevE_zero ao n cap w hn
 · rw [if_neg (by omega), Int.toNat_natCast]
   exact rlevE_in ao n cap wd l w hl hn hc hb (by omega) (by omega)
end Go.Proofs.YtebmbkbnngeabaaGreat
