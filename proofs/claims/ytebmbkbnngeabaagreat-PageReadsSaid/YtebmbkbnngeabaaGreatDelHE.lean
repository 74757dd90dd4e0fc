/- Chapter 12: the walk over the document's Encode. -/
import Derived.Test.YtebmbkbnngeabaaGreatDelGE
import Derived.Test.YtebmbkbnngeabaaGreatBunC
set_option linter.unusedSimpArgs false
namespace Go.Proofs.YtebmbkbnngeabaaGreat
open Go.RowKit
set_option linter.unusedVariables false
theorem dIntsB_nil (l : List Int) (h : (dIntsB l).length = 0) : l = [] := by
 unfold dIntsB at h
 split at h
 · assumption
 · rw [List.length_append] at h
   have := (vputB_length (zigN (l.getD 0 0))).1
   omega
theorem size0 (s : ByteArray) (h : s.size = 0) : s = ByteArray.empty := by
 have : s.data = #[] := Array.eq_empty_of_size_eq_zero h
 cases s; simp only at this; subst this; rfl
theorem strB_append (s t : ByteArray) : strB (s ++ t) = strB s ++ strB t := by simp [strB]
theorem wpList_append_strB {ops : Array Oper} {Q : Exit → Act → World → Prop} {rest : List Oper} {o : Oper} {a : Act} {w : World} (hgd : o.guard = none) (s x : Operand) (ho : o.op = .call { callee := .builtin .append, args := #[s, x], argTypes := #[24, 9] })
 {base : Nat} {ao : Option Addr} {n cap : Nat} {l : List Nat} (hs : a.eval s = .slice ao n cap) (hrow : RowB w base ao n cap l) {str : ByteArray} (hx : a.eval x = .string str) (h0 : n = 0 → str.size = 0)
 (hb : n + str.size ≤ 140737488355328) (hbase : base ≤ w.heap.size)
 (h : ∀ ao' cap' w', RowB w' base ao' (n + str.size) cap' (l ++ strB str) → Below base w w' → w.heap.size ≤ w'.heap.size → wpList Tryz.prog ops Q rest (a.put o.dst (.slice ao' (n + str.size) cap')) w') : wpList Tryz.prog ops Q (o :: rest) a w := by
 obtain ⟨hl, hrow⟩ := hrow
 rcases hrow with ⟨rfl, rfl⟩ | ⟨hn, hown⟩
 · obtain rfl := size0 str (h0 rfl)
   obtain ⟨i0, hi, hz0, hz1, hz2⟩ := info_parts Tryz.infoU8
   refine wpList_plain hgd fun K hK => ?_
   have hrun : (Builtin.append_ #[24, 9] o.type #[.slice ao 0 0, .string ByteArray.empty]).run Tryz.prog w = .ok (.slice ao 0 0) w := by
    cases ao <;> simp [Builtin.append_, run_underlying Tryz.underlying24, run_underlying Tryz.underlying9, sizeOf, typeInfo, hi, Builtin.lenOf, Builtin.firstCells, storeCells, loadCells, loadCellsFrom]
   have hk := hK _ _ (h ao 0 w (by
    obtain rfl : l = [] := List.length_eq_zero_iff.1 hl
    exact ⟨rfl, .inl ⟨rfl, rfl⟩⟩) (Below.refl _ _) (Nat.le_refl _))
   unfold Oper.wp
   simp [execOp, ho, resolve, invoke, builtin, hs, hx, Result.andThen]
   rw [hrun]
   exact hk
 · refine wpList_append_str hgd s x ho hs hown hx hb hbase (fun v' w' r1 r2 => ?_)
   obtain ⟨ao', cap', rfl, -⟩ := own_cells r1
   exact h ao' cap' w' ⟨by rw [List.length_append, hl, strB_length], .inr ⟨by omega, r1⟩⟩ ((Below.refl base w).grown r2 hbase (fun k hk => (hown.lt k hk).1)) r2.size
set_option maxHeartbeats 4000000 in
set_option maxRecDepth 100000 in
theorem rdencode_1 (ao : Option Addr) (len cap : Nat) (l : List Vl) (w : World) (hl : l.length = len) (hlen : len ≤ 4000) (hs : ∀ v ∈ l, v.2.size ≤ 100) (hc : CellsAt w w.heap.size ao (len * 2) (vlc l)) :
 Calls Tryz.prog 20 #[.int .i64 1, .slice ao len cap] w (GaveC w (dEncB 1 l)) := by
 have HE := Lib.hid (rplainE_any 1 ao len cap l w (by decide) (by decide) hl (by omega) hs hc)
 clear hl hs hc
 go_enter Tryz.func20, Tryz.ntmps20
 go_wp2_with fail
 refine HE.out.mono ?_
 rintro e y ⟨v, rfl, hf⟩
 have Hg : Hid (GaveC w (dEncB 1 l) (.returned v) y) := Lib.hid (GaveC.of_fresh hf)
 clear hf
 go_wp2
 go_ret
 exact Hg.out
set_option maxHeartbeats 8000000 in
set_option maxRecDepth 100000 in
theorem rdencode_n (k : Nat) (hk : k = 2 ∨ k = 3) (ao : Option Addr) (len cap : Nat) (l : List Vl) (w : World) (hl : l.length = len) (hlen : len ≤ 4000) (hok : ∀ v ∈ l, okV v) (hc : CellsAt w w.heap.size ao (len * 2) (vlc l)) :
 Calls Tryz.prog 20 #[.int .i64 (k : Nat), .slice ao len cap] w (GaveC w (dEncB k l)) := by
 have b1 : ((k : Int) == 1) = false := by rw [beq_eq_false_iff_ne]; omega
 have b2 : ((k : Int) == 4) = false := by rw [beq_eq_false_iff_ne]; omega
 have b3 : (k : Int) ≠ 1 := by omega
 have b4 : (k : Int) ≠ 4 := by omega
 have HB : Hid (dEncB k l = dIntsB (numsI l)) := Lib.hid (by unfold dEncB; rw [if_neg (by omega), if_neg (by omega)])
 have Hl := Lib.hid hl; have Hok := Lib.hid hok; have Hc := Lib.hid hc
 clear hl hok hc hk
 go_enter Tryz.func20, Tryz.ntmps20
 go_wp2
 go_loopw [5, 6, 7] (fun u t i x => ∃ (j : Nat) (aoJ : Option Addr) (capJ : Nat), j ≤ len ∧ u = .slice aoJ j capJ ∧ t = .string ⟨#[]⟩ ∧ i = .int .i64 (j : Nat) ∧ Hid (x.ownsRow w.heap.size 3 1 (.slice aoJ j capJ) j (i64v ((numsI l).take j))) ∧ Hid (Below w.heap.size w x)) (fun _ _ i _ => len - (intOf i).toNat)
 case atStart => exact ⟨0, none, 0, Nat.zero_le _, rfl, rfl, rfl, Lib.hid (World.ownsRow_nil _ _ _ _), Lib.hid (Below.refl _ _)⟩
 case round =>
  obtain ⟨j, aoJ, capJ, hj, rfl, rfl, rfl, hown, hbel⟩ := hrel
  obtain ⟨x, hxx⟩ : ∃ x, x = wr := ⟨_, rfl⟩
  subst hxx
  by_cases hlt : j < len
  · obtain ⟨b, off, rfl, hb, c0, c1⟩ := Hc.out.val hlt
    have c0' := (hbel.out.cell (by exact hb)).trans c0
    obtain ⟨v, hv⟩ : ∃ v, v = l.getD j vl0 := ⟨_, rfl⟩
    rw [vN, ← hv] at c0'
    have htk : Hid (i64v ((numsI l).take (j + 1)) = i64v ((numsI l).take j) ++ (List.range 1).map (fun _ => Value.int .i64 v.1)) := Lib.hid (by
     rw [i64v_one, List.take_succ_eq_append_getElem (by rw [numsI_length, Hl.out]; exact hlt)]
     simp only [numsI, List.getElem_map]
     rw [hv, List.getD_eq_getElem?_getD, List.getElem?_eq_getElem (by rw [Hl.out]; exact hlt)]; rfl)
    have e1 : (j : Int) < (len : Int) := by omega
    have e2 : (0 : Int) ≤ (j : Int) := by omega
    have hownA := own_below hown.out ((Below.refl _ _).alloc (Nat.le_refl _) (.cells #[.int .i64 v.1] 3))
    have hsA : w.heap.size ≤ (x.alloc (.cells #[.int .i64 v.1] 3)).heap.size := Nat.le_trans hbel.out.size (by simp)
    have Hxx1 := Lib.hid (balloc hbel.out (.cells #[.int .i64 v.1] 3))
    clear hv c0 c1
    go_wp2_with (at_builtin; refine wpList_append_all1 sl_i64' rfl (.tmp 37) (.tmp 43) rfl rfl hownA rfl (cells_one x 3 (.int .i64 v.1)) (fun h => by cases h) (fun _ _ => rfl) (by unfold maxLen; omega) (by omega) hsA ?_)
    intro v' y2 ho2 hg2
    have hb2 : Below w.heap.size w y2 := Hxx1.out.grown hg2 hsA (fun k hk => (hownA.lt k hk).1)
    have ho3 : y2.ownsRow w.heap.size 3 1 v' (j + 1) (i64v ((numsI l).take (j + 1))) := by rw [htk.out]; exact ho2
    obtain ⟨ao3, cap3, rfl, -⟩ := own_cells ho3
    have H3 := Lib.hid ho3; have Hb2 := Lib.hid hb2
    clear ho2 hg2 ho3 hb2 hownA hsA hown hbel
    go_wp2
    go_roundw
    case rel => exact ⟨j + 1, ao3, cap3, by omega, rfl, rfl, by go_num, H3, Hb2⟩
    case measure => simp [intOf]; omega
  · have e1 : ¬ (j : Int) < (len : Int) := by omega
    obtain rfl : j = len := by omega
    have ho := hown.out
    rw [List.take_of_length_le (by rw [numsI_length, Hl.out]; exact Nat.le_refl _)] at ho
    obtain ⟨_, _, hsl, hcR, -⟩ := own_i64 ho
    simp only [Value.slice.injEq, true_and] at hsl
    obtain ⟨rfl, rfl⟩ := hsl
    have HI := Lib.hid (rdInts_any aoJ j capJ (numsI l) x (by rw [numsI_length]; exact Hl.out) (by omega) hcR (numsI_in l Hok.out))
    have hbnd := dIntsB_bound (numsI l)
    rw [numsI_length, Hl.out] at hbnd
    obtain ⟨bs, hbs⟩ : ∃ b, b = dIntsB (numsI l) := ⟨_, rfl⟩
    rw [← hbs] at HI HB hbnd
    have Hbnd := Lib.hid hbnd
    clear ho hcR hown hbs hbnd
    go_wp2_with fail
    refine HI.out.mono ?_
    intro e y hg
    obtain ⟨aoP, nP, capP, rfl, HnP, -, -, hrP, hbP⟩ := hg.opened
    have hnP : nP ≤ 100000 := by have := HnP.out; have := Hbnd.out; omega
    have HrP := Lib.hid hrP; have HbP := Lib.hid hbP
    clear hg hrP hbP
    go_wp2_with (at_builtin; refine wpList_append_strB rfl (.tmp 46) (.tmp 47) rfl rfl HrP.out (str := ⟨#[]⟩) rfl (fun _ => rfl) (by show nP + 0 ≤ _; omega) HbP.out.size ?_)
    intro ao6 cap6 y6 hr6 hb6 hs6
    have hr6' : RowB y6 x.heap.size ao6 nP cap6 bs := by have h := hr6; rwa [show bs ++ strB ⟨#[]⟩ = bs by simp [strB]] at h
    have Hg : Hid (GaveC w (dEncB k l) (.returned (.slice ao6 nP cap6)) y6) := Lib.hid (by
     rw [HB.out]
     exact GaveC.of_row hr6' (bmore hbel.out (HbP.out.trans hb6)))
    clear hr6 hb6 hs6 hr6'
    go_wp2
    go_ret
    exact Hg.out
set_option maxHeartbeats 8000000 in
set_option maxRecDepth 100000 in
theorem rdencode_4 (ao : Option Addr) (len cap : Nat) (l : List Vl) (w : World) (hl : l.length = len) (hlen : len ≤ 4000) (hs : ∀ v ∈ l, v.2.size ≤ 100) (hc : CellsAt w w.heap.size ao (len * 2) (vlc l)) :
 Calls Tryz.prog 20 #[.int .i64 4, .slice ao len cap] w (GaveC w (dEncB 4 l)) := by
 have HB : Hid (dEncB 4 l = dIntsB (sizesI l) ++ textsB l) := Lib.hid (by unfold dEncB; rw [if_neg (by decide), if_pos rfl])
 have Hl := Lib.hid hl; have Hs := Lib.hid hs; have Hc := Lib.hid hc
 clear hl hs hc
 go_enter Tryz.func20, Tryz.ntmps20
 go_wp2
 go_loopw [5, 6, 7] (fun u t i x => ∃ (j : Nat) (aoJ : Option Addr) (capJ : Nat) (s : ByteArray), j ≤ len ∧ s.size ≤ 100 * j ∧ u = .slice aoJ j capJ ∧ t = .string s ∧ i = .int .i64 (j : Nat) ∧ Hid (strB s = textsB (l.take j)) ∧ Hid (x.ownsRow w.heap.size 3 1 (.slice aoJ j capJ) j (i64v ((sizesI l).take j))) ∧ Hid (Below w.heap.size w x)) (fun _ _ i _ => len - (intOf i).toNat)
 case atStart => exact ⟨0, none, 0, ⟨#[]⟩, Nat.zero_le _, Nat.zero_le _, rfl, rfl, rfl, Lib.hid rfl, Lib.hid (World.ownsRow_nil _ _ _ _), Lib.hid (Below.refl _ _)⟩
 case round =>
  obtain ⟨j, aoJ, capJ, s, hj, hsz, rfl, rfl, rfl, HsT, hown, hbel⟩ := hrel
  obtain ⟨x, hxx⟩ : ∃ x, x = wr := ⟨_, rfl⟩
  subst hxx
  by_cases hlt : j < len
  · obtain ⟨b, off, rfl, hb, c0, c1⟩ := Hc.out.val hlt
    obtain ⟨v, hv⟩ : ∃ v, v = l.getD j vl0 := ⟨_, rfl⟩
    rw [vS, ← hv] at c1
    have c1' := (hbel.out.cell (by exact hb)).trans c1
    have HC1 := Lib.hid c1
    have hv100 : v.2.size ≤ 100 := by
     rw [hv, List.getD_eq_getElem?_getD, List.getElem?_eq_getElem (by rw [Hl.out]; exact hlt)]
     exact Hs.out _ (List.getElem_mem _)
    have htk : Hid (i64v ((sizesI l).take (j + 1)) = i64v ((sizesI l).take j) ++ (List.range 1).map (fun _ => Value.int .i64 (v.2.size : Nat))) := Lib.hid (by
     rw [i64v_one, List.take_succ_eq_append_getElem (by rw [sizesI_length, Hl.out]; exact hlt)]
     simp only [sizesI, List.getElem_map]
     rw [hv, List.getD_eq_getElem?_getD, List.getElem?_eq_getElem (by rw [Hl.out]; exact hlt)]; rfl)
    have htT : Hid (strB (s ++ v.2) = textsB (l.take (j + 1))) := Lib.hid (by
     rw [take_vl l j (by rw [Hl.out]; exact hlt), textsB_snoc, ← hv, strB_append, HsT.out])
    have hszn : (s ++ v.2).size ≤ 100 * (j + 1) := by rw [ByteArray.size_append]; omega
    have e1 : (j : Int) < (len : Int) := by omega
    have e2 : (0 : Int) ≤ (j : Int) := by omega
    have hownA := own_below hown.out ((Below.refl _ _).alloc (Nat.le_refl _) (.cells #[.int .i64 (v.2.size : Nat)] 3))
    have hsA : w.heap.size ≤ (x.alloc (.cells #[.int .i64 (v.2.size : Nat)] 3)).heap.size := Nat.le_trans hbel.out.size (by simp)
    have Hxx1 := Lib.hid (balloc hbel.out (.cells #[.int .i64 (v.2.size : Nat)] 3))
    clear hv c0 c1
    go_wp2_with (at_builtin; refine wpList_append_all1 sl_i64' rfl (.tmp 21) (.tmp 28) rfl rfl hownA rfl (cells_one x 3 (.int .i64 (v.2.size : Nat))) (fun h => by cases h) (fun _ _ => rfl) (by unfold maxLen; omega) (by omega) hsA ?_)
    intro v' y2 ho2 hg2
    have hb2 : Below w.heap.size w y2 := Hxx1.out.grown hg2 hsA (fun k hk => (hownA.lt k hk).1)
    have ho3 : y2.ownsRow w.heap.size 3 1 v' (j + 1) (i64v ((sizesI l).take (j + 1))) := by rw [htk.out]; exact ho2
    obtain ⟨ao3, cap3, rfl, -⟩ := own_cells ho3
    have H3 := Lib.hid ho3; have Hb2 := Lib.hid hb2
    clear ho2 hg2 ho3 hb2 hownA hsA hown hbel c1'
    have c1' := (Hb2.out.cell (by exact hb)).trans HC1.out
    go_wp2
    go_roundw
    case rel => exact ⟨j + 1, ao3, cap3, s ++ v.2, by omega, by omega, rfl, rfl, by go_num, htT, H3, Hb2⟩
    case measure => simp [intOf]; omega
  · have e1 : ¬ (j : Int) < (len : Int) := by omega
    obtain rfl : j = len := by omega
    have ho := hown.out
    rw [List.take_of_length_le (by rw [sizesI_length, Hl.out]; exact Nat.le_refl _)] at ho
    obtain ⟨_, _, hsl, hcR, -⟩ := own_i64 ho
    simp only [Value.slice.injEq, true_and] at hsl
    obtain ⟨rfl, rfl⟩ := hsl
    have hT := HsT.out
    rw [List.take_of_length_le (by rw [Hl.out]; exact Nat.le_refl _)] at hT
    have HI := Lib.hid (rdInts_any aoJ j capJ (sizesI l) x (by rw [sizesI_length]; exact Hl.out) (by omega) hcR (sizesI_in l Hs.out))
    have hbnd := dIntsB_bound (sizesI l)
    have h0 : (dIntsB (sizesI l)).length = 0 → s.size = 0 := fun h => by
     have := dIntsB_nil _ h
     have hl0 : l = [] := List.length_eq_zero_iff.1 (by rw [← sizesI_length, this]; rfl)
     rw [← strB_length, hT, hl0]; rfl
    rw [sizesI_length, Hl.out] at hbnd
    obtain ⟨bs, hbs⟩ : ∃ b, b = dIntsB (sizesI l) := ⟨_, rfl⟩
    rw [← hbs] at HI HB hbnd h0
    have Hbnd := Lib.hid hbnd; have HT := Lib.hid hT; have H0 := Lib.hid h0
    clear ho hcR hown hbs hbnd hT h0
    go_wp2_with fail
    refine HI.out.mono ?_
    intro e y hg
    obtain ⟨aoP, nP, capP, rfl, HnP, -, -, hrP, hbP⟩ := hg.opened
    have hnP : nP ≤ 100000 := by have := HnP.out; have := Hbnd.out; omega
    have HrP := Lib.hid hrP; have HbP := Lib.hid hbP
    clear hg hrP hbP
    go_wp2_with (at_builtin; refine wpList_append_strB rfl (.tmp 46) (.tmp 47) rfl rfl HrP.out rfl (fun h => H0.out (by rw [HnP.out]; exact h)) (by omega) HbP.out.size ?_)
    intro ao6 cap6 y6 hr6 hb6 hs6
    have Hg : Hid (GaveC w (dEncB 4 l) (.returned (.slice ao6 (nP + s.size) cap6)) y6) := Lib.hid (by
     rw [HB.out, ← HT.out]
     exact GaveC.of_row hr6 (bmore hbel.out (HbP.out.trans hb6)))
    clear hr6 hb6 hs6
    go_wp2
    go_ret
    exact Hg.out
theorem rdencode_any (k : Nat) (ao : Option Addr) (len cap : Nat) (l : List Vl) (w : World) (h1 : 1 ≤ k) (h4 : k ≤ 4) (hl : l.length = len) (hlen : len ≤ 4000) (hs : ∀ v ∈ l, v.2.size ≤ 100) (hok : ∀ v ∈ l, okV v) (hc : CellsAt w w.heap.size ao (len * 2) (vlc l)) :
 Calls Tryz.prog 20 #[.int .i64 (k : Nat), .slice ao len cap] w (GaveC w (dEncB k l)) := by
 have hk' : k = 1 ∨ (k = 2 ∨ k = 3) ∨ k = 4 := by omega
 rcases hk' with rfl | h | rfl
 · exact rdencode_1 ao len cap l w hl hlen hs hc
 · exact rdencode_n k h ao len cap l w hl hlen hok hc
 · exact rdencode_4 ao len cap l w hl hlen hs hc
end Go.Proofs.YtebmbkbnngeabaaGreat
