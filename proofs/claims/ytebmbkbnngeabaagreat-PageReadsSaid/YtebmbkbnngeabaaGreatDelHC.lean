/- Chapter 12: the walk over the document's Decode. -/
import Derived.Test.YtebmbkbnngeabaaGreatDelHD
set_option linter.unusedSimpArgs false
namespace Go.Proofs.YtebmbkbnngeabaaGreat
open Go.RowKit
set_option linter.unusedVariables false
set_option maxHeartbeats 8000000 in
set_option maxRecDepth 100000 in
theorem rddecode_bad (kind : Int) (ao : Option Addr) (L cap : Nat) (b : List Nat) (n : Int) (w : World) (h : kind < 1 ∨ 4 < kind ∨ n < 0 ∨ 4000 < n) :
 Calls Tryz.prog 34 #[.int .i64 kind, .slice ao L cap, .int .i64 n] w (GaveDec w (dDecM kind b n)) := by
 have hM : Hid (dDecM kind b n = ([], 1)) := Lib.hid (by unfold dDecM decodeM; rw [if_pos (by omega), if_pos h])
 have hcase : (kind < 1) ∨ (¬ kind < 1 ∧ 4 < kind) ∨ (¬ kind < 1 ∧ ¬ 4 < kind ∧ n < 0) ∨ (¬ kind < 1 ∧ ¬ 4 < kind ∧ ¬ n < 0 ∧ 4000 < n) := by omega
 clear h
 rcases hcase with h1 | ⟨h1, h2⟩ | ⟨h1, h2, h3⟩ | ⟨h1, h2, h3, h4⟩
 · have d1 : decide (kind < 1) = true := decide_eq_true h1
   go_enter Tryz.func34, Tryz.ntmps34
   go_wp2
   go_ret2
   rw [hM.out]
   exact GaveDec.none 1 (Below.refl _ _)
 · have d1 : decide (kind < 1) = false := decide_eq_false h1
   have d2 : decide (4 < kind) = true := decide_eq_true h2
   go_enter Tryz.func34, Tryz.ntmps34
   go_wp2
   go_ret2
   rw [hM.out]
   exact GaveDec.none 1 (Below.refl _ _)
 · have d1 : decide (kind < 1) = false := decide_eq_false h1
   have d2 : decide (4 < kind) = false := decide_eq_false h2
   have d3 : decide (n < 0) = true := decide_eq_true h3
   go_enter Tryz.func34, Tryz.ntmps34
   go_wp2
   go_ret2
   rw [hM.out]
   exact GaveDec.none 1 (Below.refl _ _)
 · have d1 : decide (kind < 1) = false := decide_eq_false h1
   have d2 : decide (4 < kind) = false := decide_eq_false h2
   have d3 : decide (n < 0) = false := decide_eq_false h3
   have d4 : decide (4000 < n) = true := decide_eq_true h4
   go_enter Tryz.func34, Tryz.ntmps34
   go_wp2
   go_ret2
   rw [hM.out]
   exact GaveDec.none 1 (Below.refl _ _)
set_option maxHeartbeats 8000000 in
set_option maxRecDepth 100000 in
theorem rddecode_1 (ao : Option Addr) (L cap : Nat) (b : List Nat) (N : Nat) (w : World) (hl : b.length = L) (h256 : ∀ x ∈ b, x < 256) (hL : L ≤ 1000000) (hc : CellsAt w w.heap.size ao L (u8c b)) (hz : ao = none → L = 0) (hN : N ≤ 4000) :
 Calls Tryz.prog 34 #[.int .i64 1, .slice ao L cap, .int .i64 (N : Nat)] w (GaveDec w (dDecM 1 b N)) := by
 have hM : Hid (dDecM 1 b N = decodeM 1 b N) := Lib.hid (by unfold dDecM; rw [if_pos (by omega)])
 have HD := Lib.hid (rdecode_any 1 ao L cap b (N : Nat) w hl h256 hL hc hz)
 rw [← hM.out] at HD
 have b1 : decide ((N : Int) < 0) = false := decide_eq_false (by omega)
 have b2 : decide ((4000 : Int) < (N : Int)) = false := decide_eq_false (by omega)
 clear hl h256 hc hz hM
 go_enter Tryz.func34, Tryz.ntmps34
 go_wp2_with fail
 refine HD.out.mono ?_
 rintro e y ⟨v, rfl, ho, hy⟩
 have Hg : Hid (GaveDec w (dDecM 1 b N) (.returned (.tuple #[v, .int .i64 ((dDecM 1 b N).2 : Nat)])) y) := Lib.hid ⟨v, rfl, ho, hy⟩
 clear ho hy
 go_wp2
 go_ret2
 exact Hg.out
set_option maxHeartbeats 8000000 in
set_option maxRecDepth 100000 in
theorem rddecode_n (kind : Nat) (hk : kind = 2 ∨ kind = 3) (ao : Option Addr) (L cap : Nat) (b : List Nat) (N : Nat) (w : World) (hl : b.length = L) (h256 : ∀ x ∈ b, x < 256) (hL : L ≤ 1000000) (hc : CellsAt w w.heap.size ao L (u8c b)) (hz : ao = none → L = 0) (hN : N ≤ 4000) :
 Calls Tryz.prog 34 #[.int .i64 (kind : Nat), .slice ao L cap, .int .i64 (N : Nat)] w (GaveDec w (dDecM kind b N)) := by
 obtain ⟨r, hr⟩ : ∃ r, r = dReadM b N := ⟨_, rfl⟩
 have hM : Hid (dDecM kind b N = if r.2.2 ≠ 0 then ([], r.2.2) else numsT kind (b.drop r.2.1) r.1) := Lib.hid (by unfold dDecM; rw [if_neg (by omega), ← hr, if_neg (show ¬ ((kind : Nat) : Int) = 4 by omega)])
 have hok := dReadM_ok b N
 have HR := Lib.hid (rdRead_any ao L cap b (N : Nat) w hl h256 hL hz hc)
 rw [← hr] at hok HR
 have Hl := Lib.hid hl; have Hk := Lib.hid hk
 have b1 : decide ((N : Int) < 0) = false := decide_eq_false (by omega)
 have b2 : decide ((4000 : Int) < (N : Int)) = false := decide_eq_false (by omega)
 have b3 : decide ((kind : Int) < 1) = false := decide_eq_false (by omega)
 have b4 : decide (4 < (kind : Int)) = false := decide_eq_false (by omega)
 have b5 : ((kind : Int) == 1) = false := by rw [beq_eq_false_iff_ne]; omega
 have b5' : (kind : Int) ≠ 1 := by omega
 have b6 : ((kind : Int) == 4) = false := by rw [beq_eq_false_iff_ne]; omega
 have b6' : (kind : Int) ≠ 4 := by omega
 clear hr hl h256 hc hz hk
 go_enter Tryz.func34, Tryz.ntmps34
 obtain ⟨rl, used, er⟩ := r
 simp only at hM hok
 go_wp2_with fail
 refine HR.out.mono ?_
 intro e y hg
 obtain ⟨aoX, nX, capX, rfl, HnX, hcX, hbX⟩ := hg.opened
 have Hy := Lib.hid hbX
 have HcX := Lib.hid hcX
 simp only at HnX
 clear hg hcX hbX
 by_cases h0 : er = 0
 · subst h0
   have hok := hok rfl
   obtain rfl : nX = N := by rw [← HnX.out]; exact hok.1
   rw [if_neg (by simp)] at hM
   have HNm := Lib.hid (rdnumbers_any kind Hk.out ao L cap b aoX nX capX rl used y Hl.out hL (by rw [← Hl.out]; exact hok.2) hok.1 hN HcX.out)
   clear hok
   go_wp2_with fail
   refine HNm.out.mono ?_
   intro e z hg
   have hg := hg.later Hy.out
   rw [← hM.out] at hg
   obtain ⟨v, rfl, ho, hz⟩ := hg
   have Hg : Hid (GaveDec w (dDecM kind b nX) (.returned (.tuple #[v, .int .i64 ((dDecM kind b nX).2 : Nat)])) z) := Lib.hid ⟨v, rfl, ho, hz⟩
   clear ho hz
   go_wp2
   go_ret2
   exact Hg.out
 · rw [if_pos h0] at hM
   have h1 : ((er : Int) == 0) = false := by rw [beq_eq_false_iff_ne]; omega
   have h2 : (er : Int) ≠ 0 := by omega
   clear h0
   go_wp2
   go_ret2
   rw [hM.out]
   exact GaveDec.none er Hy.out
set_option maxHeartbeats 8000000 in
set_option maxRecDepth 100000 in
theorem rddecode_4 (ao : Option Addr) (L cap : Nat) (b : List Nat) (N : Nat) (w : World) (hl : b.length = L) (h256 : ∀ x ∈ b, x < 256) (hL : L ≤ 1000000) (hcap : L ≤ cap) (hc : CellsAt w w.heap.size ao L (u8c b)) (hz : ao = none → L = 0) (hN : N ≤ 4000) :
 Calls Tryz.prog 34 #[.int .i64 4, .slice ao L cap, .int .i64 (N : Nat)] w (GaveDec w (dDecM 4 b N)) := by
 obtain ⟨r, hr⟩ : ∃ r, r = dReadM b N := ⟨_, rfl⟩
 have hM : Hid (dDecM 4 b N = if r.2.2 ≠ 0 then ([], r.2.2) else dTexts (b.drop r.2.1) r.1) := Lib.hid (by unfold dDecM; rw [if_neg (by omega), ← hr, if_pos rfl])
 have hok := dReadM_ok b N
 have HRd := Lib.hid (rdRead_any ao L cap b (N : Nat) w hl h256 hL hz hc)
 rw [← hr] at hok HRd
 have Hl := Lib.hid hl; have Hc := Lib.hid hc; have Hz := Lib.hid hz
 have b1 : decide ((N : Int) < 0) = false := decide_eq_false (by omega)
 have b2 : decide ((4000 : Int) < (N : Int)) = false := decide_eq_false (by omega)
 clear hr hl h256 hc hz
 go_enter Tryz.func34, Tryz.ntmps34
 obtain ⟨ns, used, er⟩ := r
 simp only at hM hok
 go_wp2_with fail
 refine HRd.out.mono ?_
 intro e y hg
 obtain ⟨aoN, n, capN, rfl, HnX, hcX, hbX⟩ := hg.opened
 have Hy := Lib.hid hbX
 have HcN := Lib.hid hcX
 simp only at HnX
 clear hg hcX hbX
 by_cases h0 : er = 0
 · subst h0
   have hok := hok rfl
   obtain rfl : n = N := by rw [← HnX.out]; exact hok.1
   have hused : used ≤ L := by rw [← Hl.out]; exact hok.2
   have Hnl := Lib.hid hok.1
   rw [if_neg (by simp)] at hM
   clear hok
   go_wp2
   go_loopw [11] (fun i z => ∃ j : Nat, j ≤ n ∧ i = .int .i64 (j : Nat) ∧ y = z ∧ Hid (badLen (ns.take j) = false)) (fun i _ => n - (intOf i).toNat)
   case atStart => exact ⟨0, Nat.zero_le _, rfl, rfl, Lib.hid rfl⟩
   case round =>
    obtain ⟨j, hj, rfl, rfl, hgood⟩ := hrel
    by_cases hjn : j < n
    · obtain ⟨bb, off, rfl, -, cx⟩ := HcN.out j hjn
      obtain ⟨x, hx⟩ : ∃ x, x = ns.getD j 0 := ⟨_, rfl⟩
      rw [i64c, ← hx] at cx
      have e1 : (j : Int) < (n : Int) := by omega
      have e2 : (0 : Int) ≤ (j : Int) := by omega
      have Hx := Lib.hid hx
      clear hx
      by_cases hneg : x < 0
      · have d1 : decide (x < 0) = true := decide_eq_true hneg
        have hR : Hid (dDecM 4 b n = ([], 5)) := Lib.hid (by rw [hM.out]; unfold dTexts; rw [if_pos (badLen_bad ns j (by rw [Hnl.out]; exact hjn) (.inl (by rw [← Hx.out]; exact hneg)))])
        go_wp2
        go_ret2
        rw [hR.out]
        exact GaveDec.none 5 Hy.out
      · by_cases hbig : 100 < x
        · have d1 : decide (x < 0) = false := decide_eq_false hneg
          have d2 : decide (100 < x) = true := decide_eq_true hbig
          have hR : Hid (dDecM 4 b n = ([], 5)) := Lib.hid (by rw [hM.out]; unfold dTexts; rw [if_pos (badLen_bad ns j (by rw [Hnl.out]; exact hjn) (.inr (by rw [← Hx.out]; exact hbig)))])
          go_wp2
          go_ret2
          rw [hR.out]
          exact GaveDec.none 5 Hy.out
        · have d1 : decide (x < 0) = false := decide_eq_false hneg
          have d2 : decide (100 < x) = false := decide_eq_false hbig
          have hg2 : Hid (badLen (ns.take (j + 1)) = false) := Lib.hid (badLen_take ns j (by rw [Hnl.out]; exact hjn) hgood.out (by rw [← Hx.out]; omega))
          go_wp2
          go_roundw
          case rel => exact ⟨j + 1, by omega, by go_num, by first | rfl | trivial, hg2⟩
          case measure => simp [intOf]; omega
    · obtain rfl : j = n := by omega
      have hgd : Hid (badLen ns = false) := Lib.hid (by have h := hgood.out; rwa [List.take_of_length_le (by rw [Hnl.out]; exact Nat.le_refl _)] at h)
      obtain ⟨R, hR⟩ : ∃ R, R = dDecM 4 b j := ⟨_, rfl⟩
      have HR0 : Hid (glue [] (cutT (ns.drop 0) (b.drop used)) = R) := Lib.hid (by rw [hR, hM.out]; unfold dTexts; rw [if_neg (by rw [hgd.out]; decide), List.drop_zero, glue_nil _ (cutT_no ns (b.drop used))])
      have e1 : ¬ (j : Int) < (j : Int) := by omega
      have HRR := Lib.hid hR
      clear hR hgood hjn hj
      go_wp2
      go_loopw [9, 12, 13] (fun us ov i z => ∃ (k u : Nat) (aoJ : Option Addr) (capJ : Nat) (acc : List Vl), k ≤ j ∧ u ≤ L ∧ us = .int .i64 (u : Nat) ∧ ov = .slice aoJ k capJ ∧ i = .int .i64 (k : Nat) ∧ Hid (acc.length = k) ∧ Hid (glue acc (cutT (ns.drop k) (b.drop u)) = R) ∧ Hid (z.ownsRow y.heap.size 81 2 (.slice aoJ k capJ) k (vcs acc)) ∧ Hid (Below y.heap.size y z)) (fun _ _ i _ => j - (intOf i).toNat)
      case atStart => exact ⟨0, used, none, 0, [], Nat.zero_le _, hused, rfl, rfl, rfl, Lib.hid rfl, HR0, Lib.hid (World.ownsRow_nil _ _ _ _), Lib.hid (Below.refl _ _)⟩
      case round =>
       clear HR0
       obtain ⟨k, u, aoJ, capJ, acc, hk, hu, rfl, rfl, rfl, Hacc, HR, hown, Hbz⟩ := hrel
       obtain ⟨z, hzz⟩ : ∃ z, z = wr := ⟨_, rfl⟩
       subst hzz
       by_cases hkj : k < j
       · obtain ⟨bn, offn, rfl, hbn, cx0⟩ := HcN.out k hkj
         have cx := (Hbz.out.cell (by exact hbn)).trans cx0
         obtain ⟨x, hx⟩ : ∃ x, x = ns.getD k 0 := ⟨_, rfl⟩
         rw [i64c, ← hx] at cx cx0
         have Hcx0 := Lib.hid cx0
         have hxg := badLen_good ns hgd.out k (by rw [Hnl.out]; exact hkj)
         rw [← hx] at hxg
         obtain ⟨q, rfl⟩ : ∃ q : Nat, x = q := ⟨x.toNat, by omega⟩
         have e3 : (k : Int) < (j : Int) := by omega
         have e4 : (0 : Int) ≤ (k : Int) := by omega
         have hdr : Hid (ns.drop k = (q : Int) :: ns.drop (k + 1)) := Lib.hid (by
          rw [List.drop_eq_getElem_cons (by rw [Hnl.out]; exact hkj), hx, List.getD_eq_getElem?_getD, List.getElem?_eq_getElem (by rw [Hnl.out]; exact hkj)]; rfl)
         have hdl : Hid ((b.drop u).length = L - u) := Lib.hid (by rw [List.length_drop, Hl.out])
         have HBw : Hid (Below w.heap.size w z) := Lib.hid (bmore Hy.out Hbz.out)
         clear hx cx0
         by_cases hlack : L - u < q
         · have e5 : (L : Int) - (u : Int) < (q : Int) := by omega
           have hR2 : Hid (R = ([], 8)) := Lib.hid (by rw [← HR.out, hdr.out]; exact cutT_lack _ _ _ (by rw [hdl.out]; omega) _)
           go_wp2
           go_ret2
           rw [← HRR.out, hR2.out]
           exact GaveDec.none 8 HBw.out
         · have e5 : ¬ (L : Int) - (u : Int) < (q : Int) := by omega
           have e6 : (0 : Int) ≤ (q : Int) := by omega
           obtain ⟨s, hs⟩ : ∃ s, s = strOf ((b.drop u).take q) := ⟨_, rfl⟩
           obtain ⟨aoC2, hao2, hs2⟩ := slice_lh ao L cap u q (by omega)
           have hcC : CellsAt z z.heap.size aoC2 q (u8c ((b.drop u).take q)) := by
            rcases hao2 with h0 | rfl
            · rw [h0]; exact CellsAt.zero
            · exact drop_cells (p := u) (m := q) (Hc.out.at HBw.out) (by omega)
           have hzC : aoC2 = none → q = 0 := fun e => by
            rcases hao2 with h0 | h
            · exact h0
            · have : ao = none := by cases ao with | none => rfl | some a => rw [e] at h; simp at h
              have := Hz.out this; omega
           have hcv := conv_grown (w := z) (cap := cap - u) (l := (b.drop u).take q) (n := q) (ao := aoC2) (by rw [List.length_take, hdl.out]; omega) hcC hzC z (Grows.refl _)
           rw [← hs] at hcv
           have HR2 : Hid (glue (acc ++ [((0 : Int), s)]) (cutT (ns.drop (k + 1)) (b.drop (u + q))) = R) := Lib.hid (by
            rw [← HR.out, hdr.out, cutT_cons _ _ _ (by rw [hdl.out]; omega), Int.toNat_natCast, ← hs, List.drop_drop])
           have Hacc2 : Hid ((acc ++ [((0 : Int), s)]).length = k + 1) := Lib.hid (by rw [List.length_append, Hacc.out]; rfl)
           have hownA := own_below hown.out ((Below.refl _ _).alloc (Nat.le_refl _) (.cells #[.int .i64 0, .string s] 81))
           have hsA : y.heap.size ≤ (z.alloc (.cells #[.int .i64 0, .string s] 81)).heap.size := Nat.le_trans Hbz.out.size (by simp)
           have hcv2 := cells_one_v z 81 ((0 : Int), s)
           have hbA := balloc Hbz.out (.cells #[.int .i64 0, .string s] 81)
           have HbA := Lib.hid hbA
           clear hs hao2 hcC hzC hbA
           go_wp2_with (at_builtin; refine wpList_append_all sl_v rfl (.tmp 88) (.tmp 100) rfl rfl hownA rfl (m := 1) hcv2 (fun h => by cases h) (fun _ _ => vlc_one _ _) (by unfold maxLen; omega) (by omega) hsA ?_)
           intro v' y2 ho2 hgr
           have hb2 : Below y.heap.size y y2 := HbA.out.grown hgr hsA (fun k hk => (hownA.lt k hk).1)
           have ho3 : y2.ownsRow y.heap.size 81 2 v' (k + 1) (vcs (acc ++ [((0 : Int), s)])) := by rw [← vcs_snoc]; exact ho2
           obtain ⟨ao3, cap3, hv3, -⟩ : ∃ ao3 cap3, v' = .slice ao3 (k + 1) cap3 ∧ True := by
            rcases ho3.2 with ⟨-, h⟩ | ⟨g, c2, _, h, -⟩
            · omega
            · exact ⟨_, c2, h, trivial⟩
           subst hv3
           have H3 := Lib.hid ho3; have Hb2 := Lib.hid hb2
           have cx2 := (Hb2.out.cell (by exact hbn)).trans Hcx0.out
           clear ho2 hgr ho3 hb2 hownA hsA hown hcv2 hcv cx
           go_wp2
           go_roundw
           case rel => exact ⟨k + 1, u + q, ao3, cap3, acc ++ [((0 : Int), s)], by omega, by omega, by go_num, rfl, by go_num, Hacc2, HR2, H3, Hb2⟩
           case measure => simp [intOf]; omega
       · obtain rfl : k = j := by omega
         have e3 : ¬ (k : Int) < (k : Int) := by omega
         have hdn : Hid (R = if L - u ≠ 0 then ([], 9) else (acc, 0)) := Lib.hid (by rw [← HR.out, List.drop_of_length_le (by rw [Hnl.out]; exact Nat.le_refl _), cutT_done, List.length_drop, Hl.out])
         have HBw : Hid (Below w.heap.size w z) := Lib.hid (bmore Hy.out Hbz.out)
         by_cases hm : u < L
         · have e5 : (u : Int) < (L : Int) := by omega
           have e5b : decide (u < L) = true := decide_eq_true hm
           have hR2 : Hid (R = ([], 9)) := Lib.hid (by rw [hdn.out, if_pos (by omega)])
           go_wp2
           go_ret2
           rw [← HRR.out, hR2.out]
           exact GaveDec.none 9 HBw.out
         · have e5 : ¬ (u : Int) < (L : Int) := by omega
           have e5b : decide (u < L) = false := decide_eq_false hm
           have hR2 : Hid (R = (acc, 0)) := Lib.hid (by rw [hdn.out, if_neg (by omega)])
           have ho : Hid (z.ownsRow w.heap.size 81 2 (.slice aoJ k capJ) acc.length (vcs acc)) := Lib.hid (by
            rw [Hacc.out]; exact own_base hown.out Hy.out.size)
           go_wp2
           go_ret2
           rw [← HRR.out, hR2.out]
           exact ⟨_, rfl, ho.out, HBw.out⟩
 · rw [if_pos h0] at hM
   have h1 : ((er : Int) == 0) = false := by rw [beq_eq_false_iff_ne]; omega
   have h2 : (er : Int) ≠ 0 := by omega
   clear h0
   go_wp2
   go_ret2
   rw [hM.out]
   exact GaveDec.none er Hy.out
theorem rddecode_any (kind : Int) (ao : Option Addr) (L cap : Nat) (b : List Nat) (n : Int) (w : World) (hl : b.length = L) (h256 : ∀ x ∈ b, x < 256) (hL : L ≤ 1000000) (hcap : L ≤ cap) (hc : CellsAt w w.heap.size ao L (u8c b)) (hz : ao = none → L = 0) :
 Calls Tryz.prog 34 #[.int .i64 kind, .slice ao L cap, .int .i64 n] w (GaveDec w (dDecM kind b n)) := by
 by_cases h : kind < 1 ∨ 4 < kind ∨ n < 0 ∨ 4000 < n
 · exact rddecode_bad kind ao L cap b n w h
 · obtain ⟨N, rfl⟩ : ∃ N : Nat, n = N := ⟨n.toNat, by omega⟩
   have hk : kind = 1 ∨ kind = 2 ∨ kind = 3 ∨ kind = 4 := by omega
   rcases hk with rfl | rfl | rfl | rfl
   · exact rddecode_1 ao L cap b N w hl h256 hL hc hz (by omega)
   · exact rddecode_n 2 (.inl rfl) ao L cap b N w hl h256 hL hc hz (by omega)
   · exact rddecode_n 3 (.inr rfl) ao L cap b N w hl h256 hL hc hz (by omega)
   · exact rddecode_4 ao L cap b N w hl h256 hL hcap hc hz (by omega)
end Go.Proofs.YtebmbkbnngeabaaGreat
