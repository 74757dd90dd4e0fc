/- Chapter 12: the law DeltaTexts. -/
import Derived.Test.YtlnlcmdbhkpnhaaDelVL
namespace Go.Proofs.Ytlnlcmdbhkpnhaa
open Go.RowKit
set_option linter.unusedVariables false

theorem strOf_append (l m : List Nat) : strOf (l ++ m) = strOf l ++ strOf m := by
  have : (strOf (l ++ m)).data.toList = (strOf l ++ strOf m).data.toList := by
    rw [ByteArray.data_append, Array.toList_append]
    simp only [strOf, strOfNums_data, List.map_append]
  have h2 : (strOf (l ++ m)).data = (strOf l ++ strOf m).data := Array.toList_inj.1 this
  cases h : strOf (l ++ m); cases h3 : strOf l ++ strOf m
  rw [h, h3] at h2
  simp only at h2
  rw [h2]
theorem strOf_size (l : List Nat) : (strOf l).size = l.length := by
  have h : (strOf l).data.toList.length = l.length := by simp only [strOf, strOfNums_data, List.length_map]
  rw [← h, Array.length_toList]; rfl
set_option maxHeartbeats 8000000 in
set_option maxRecDepth 100000 in
theorem deltaTexts_walk (a0 : Option Addr) (len0 cap0 : Nat) (z0 : List Vl) (w : World) (w0 : IsVals w a0 len0 cap0 z0) :
    Calls Try.prog 4 #[.slice a0 len0 cap0] w fun e w' => e = .returned (.bool true) ∧ Below w.heap.size w w' := by
  have hs100 := allV_sizes 4 z0
  have hl60 := allV_length 4 z0
  have hok := allV_ok 4 z0 w0.2.2.2.2.2
  rw [w0.1] at hl60
  have hA := fun (w' : World) (h : IsVals w' a0 len0 cap0 z0) => all_any 4 a0 len0 cap0 z0 w' (by omega) (by omega) h
  obtain ⟨l, hr⟩ : ∃ r, r = allV 4 z0 := ⟨_, rfl⟩
  rw [← hr] at hs100 hl60 hA hok
  have Hs := Lib.hid hs100; have Hok := Lib.hid hok; clear hs100 hr hok
  go_enter Try.func4, Try.ntmps4
  go_wp2_with (go_at_call 12; refine (known_any _).mono ?_; rintro e x1 ⟨rfl, hx1⟩)
  refine (hA _ (w0.below hx1)).mono ?_
  rintro e x2 ⟨v, rfl, hf⟩
  have hx2 := bmore hx1 hf.2
  obtain ⟨ao, len, cap, rfl, Hl, hncR, hcR, hnR⟩ := hf.open_
  have hn60 : len ≤ 60 := by have h := Hl.out; omega
  have Hc := Lib.hid hcR; have Hx2 := Lib.hid hx2
  clear hf hA hl60 w0 hx1 hcR hx2
  go_wp2
  go_loopw [4, 5, 6] (fun u t i x => ∃ (j : Nat) (aoJ : Option Addr) (capJ : Nat) (s : ByteArray), j ≤ len ∧ s.size ≤ 100 * j ∧ u = .slice aoJ j capJ ∧ t = .string s ∧ i = .int .i64 (j : Nat) ∧ Hid (strB s = textsB (l.take j)) ∧ Hid (x.ownsRow x2.heap.size 3 1 (.slice aoJ j capJ) j (i64v ((sizesI l).take j))) ∧ Hid (Below x2.heap.size x2 x)) (fun _ _ i _ => len - (intOf i).toNat)
  case atStart => exact ⟨0, none, 0, ⟨#[]⟩, Nat.zero_le _, Nat.zero_le _, rfl, rfl, rfl, Lib.hid rfl, Lib.hid (World.ownsRow_nil _ _ _ _), Lib.hid (Below.refl _ _)⟩
  case round =>
    obtain ⟨j, aoJ, capJ, s, hj, hsz, rfl, rfl, rfl, HsT, hown, hbel⟩ := hrel
    obtain ⟨x, hxx⟩ : ∃ x, x = wr := ⟨_, rfl⟩
    subst hxx
    by_cases hlt : j < len
    · obtain ⟨b, off, rfl, hb, c0, c1⟩ := Hc.out.val hlt
      obtain ⟨v, hv⟩ : ∃ v, v = l.getD j vl0 := ⟨_, rfl⟩
      rw [vS, ← hv] at c1
      have c1' := (hbel.out.cell (by exact hb)).trans c1
      have HC1 := Lib.hid c1
      have hv100 : v.2.size ≤ 100 := by
        rw [hv, List.getD_eq_getElem?_getD, List.getElem?_eq_getElem (by rw [Hl.out]; exact hlt)]
        exact Hs.out _ (List.getElem_mem _)
      have htk : Hid (i64v ((sizesI l).take (j + 1)) = i64v ((sizesI l).take j) ++ (List.range 1).map (fun _ => Value.int .i64 (v.2.size : Nat))) := Lib.hid (by
        rw [i64v_one, List.take_succ_eq_append_getElem (by rw [sizesI_length, Hl.out]; exact hlt)]
        simp only [sizesI, List.getElem_map]
        rw [hv, List.getD_eq_getElem?_getD, List.getElem?_eq_getElem (by rw [Hl.out]; exact hlt)]; rfl)
      have htT : Hid (strB (s ++ v.2) = textsB (l.take (j + 1))) := Lib.hid (by
        rw [take_vl l j (by rw [Hl.out]; exact hlt), textsB_snoc, ← hv, strB_append, HsT.out])
      have hszn : (s ++ v.2).size ≤ 100 * (j + 1) := by rw [ByteArray.size_append]; omega
      have e1 : (j : Int) < (len : Int) := by omega
      have e2 : (0 : Int) ≤ (j : Int) := by omega
      have hownA := own_below hown.out ((Below.refl _ _).alloc (Nat.le_refl _) (.cells #[.int .i64 (v.2.size : Nat)] 3))
      have hsA : x2.heap.size ≤ (x.alloc (.cells #[.int .i64 (v.2.size : Nat)] 3)).heap.size := Nat.le_trans hbel.out.size (by simp)
      have Hxx1 := Lib.hid (balloc hbel.out (.cells #[.int .i64 (v.2.size : Nat)] 3))
      clear hv c0 c1
      go_wp2_with (at_builtin; refine wpList_append_all1 sl_i64' rfl (.tmp 17) (.tmp 24) rfl rfl hownA rfl (cells_one x 3 (.int .i64 (v.2.size : Nat))) (fun h => by cases h) (fun _ _ => rfl) (by unfold maxLen; omega) (by omega) hsA ?_)
      intro v' y2 ho2 hg2
      have hb2 : Below x2.heap.size x2 y2 := Hxx1.out.grown hg2 hsA (fun k hk => (hownA.lt k hk).1)
      have ho3 : y2.ownsRow x2.heap.size 3 1 v' (j + 1) (i64v ((sizesI l).take (j + 1))) := by rw [htk.out]; exact ho2
      obtain ⟨ao3, cap3, rfl, -⟩ := own_cells ho3
      have H3 := Lib.hid ho3; have Hb2 := Lib.hid hb2
      clear ho2 hg2 ho3 hb2 hownA hsA hown hbel c1'
      have c1' := (Hb2.out.cell (by exact hb)).trans HC1.out
      go_wp2
      go_roundw
      case rel => exact ⟨j + 1, ao3, cap3, s ++ v.2, by omega, by omega, rfl, rfl, by go_num, htT, H3, Hb2⟩
      case measure => simp [intOf]; omega
    · have e1 : ¬ (j : Int) < (len : Int) := by omega
      obtain rfl : j = len := by omega
      have ho := hown.out
      rw [List.take_of_length_le (by rw [sizesI_length, Hl.out]; exact Nat.le_refl _)] at ho
      obtain ⟨_, _, hsl, hcN, -⟩ := own_i64 ho
      simp only [Value.slice.injEq, true_and] at hsl
      obtain ⟨rfl, rfl⟩ := hsl
      have hT := HsT.out
      rw [List.take_of_length_le (by rw [Hl.out]; exact Nat.le_refl _)] at hT
      have HE := Lib.hid (dencode_any 4 ao j cap l x.drew (by decide) (by decide) Hl.out (by omega) Hs.out Hok.out (Hc.out.at hbel.out).drew)
      have HI := Lib.hid (fun (z : World) (hz : CellsAt z z.heap.size aoJ j (i64c (sizesI l))) => dInts_any aoJ j capJ (sizesI l) z (by rw [sizesI_length]; exact Hl.out) (by omega) hz (sizesI_in l Hs.out))
      have hcat : strOf (dIntsB (sizesI l)) ++ s = strOf (dEncB 4 l) := by
        rw [show dEncB 4 l = dIntsB (sizesI l) ++ textsB l by unfold dEncB; rw [if_neg (by decide), if_pos rfl], strOf_append, ← hT, strOf_strB]
      obtain ⟨is, his⟩ : ∃ b, b = dIntsB (sizesI l) := ⟨_, rfl⟩
      obtain ⟨bs, hbs⟩ : ∃ b, b = dEncB 4 l := ⟨_, rfl⟩
      have hbnd := dIntsB_bound (sizesI l)
      rw [sizesI_length, Hl.out] at hbnd
      rw [← his] at HI hcat hbnd
      have hroom : ¬ 9223372036854775807 < (strOf is).size + s.size := by rw [strOf_size]; omega
      rw [← hbs] at HE hcat
      have HcN := Lib.hid hcN
      have Hx := Lib.hid (bmore Hx2.out hbel.out)
      clear ho hcN hown hT his hbs hbel
      go_wp2
      refine wp_region_linH [(0, 0), (3, 0), (6, 0), (1, 1), (2, 0), (4, 1), (5, 0), (7, 0), (8, 0), (9, 0)] [] (by kernel_rfl) (by kernel_rfl) (fun d _ _ _ _ h => by cases d <;> exact h) ?_
      repeat (first
        | (refine wpLinH_skip rfl rfl (fun K hK => ?_); go_simp; refine hK _ ?_; clear hK K)
        | (refine wpLinH_take (v := ?_) rfl rfl (fun w' hw' => ?_) (fun K hK => ?_); rotate_left; (go_simp; rfl); (go_simp; refine hK _ ?_; clear hK K)))
      refine wpLinH_do rfl (fun K hK => ?_); go_simp
      refine HE.out.mono ?_
      rintro e x5 ⟨ao5, n5, cap5, rfl, Hn5, -, hc5, hz5, hx5⟩
      refine hK _ _ hx5 ?_; clear hK K
      have hcv5 := conv_grown (cap := cap5) Hn5.out hc5 hz5
      have HcN5 := Lib.hid (HcN.out.drew.at hx5)
      have Hx5 := Lib.hid (bmore Hx.out.drew hx5)
      clear hc5 hx5
      repeat (first
        | (refine wpLinH_skip rfl rfl (fun K hK => ?_); go_simp; refine hK _ ?_; clear hK K)
        | (refine wpLinH_take (v := ?_) rfl rfl (fun w' hw' => ?_) (fun K hK => ?_); rotate_left; (go_simp; rfl); (go_simp; refine hK _ ?_; clear hK K)))
      refine wpLinH_do rfl (fun K hK => ?_); go_simp
      refine (HI.out _ HcN5.out).mono ?_
      intro e x6 hg
      obtain ⟨ao6, n6, cap6, rfl, Hn6, hc6, hz6, -, hx6⟩ := hg.opened
      refine hK _ _ hx6 ?_; clear hK K hcv5
      have hcv6 := conv_grown (cap := cap6) Hn6.out hc6 hz6
      have Hx6 := Lib.hid (bmore Hx5.out hx6)
      clear hg hc6 hx6
      repeat (first
        | (refine wpLinH_skip rfl rfl (fun K hK => ?_); go_simp; refine hK _ ?_; clear hK K)
        | (refine wpLinH_take (v := ?_) rfl rfl (fun w' hw' => ?_) (fun K hK => ?_); rotate_left; (go_simp; rfl); (go_simp; refine hK _ ?_; clear hK K)))
      refine wpLinH_nil ?_
      go_wp2
      go_ret
      exact ⟨rfl, Hx6.out⟩
end Go.Proofs.Ytlnlcmdbhkpnhaa
