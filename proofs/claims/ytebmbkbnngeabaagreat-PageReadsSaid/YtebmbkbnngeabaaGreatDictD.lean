/- Chapter 13: the walks over dict's width, Encode, Decode, and the document's. -/
import Derived.Test.YtebmbkbnngeabaaGreatLevS
import Derived.Test.YtebmbkbnngeabaaGreatLevF
import Derived.Test.YtebmbkbnngeabaaGreatLevL0
import Derived.Test.YtebmbkbnngeabaaGreatBunB
import Derived.Test.YtebmbkbnngeabaaGreatBunA
set_option linter.unusedSimpArgs false
namespace Go.Proofs.YtebmbkbnngeabaaGreat
open Go.RowKit
set_option linter.unusedVariables false
def dWide (m : Nat) : Nat := bitLen (m - 1)
theorem dWide_le (m : Nat) (h : m ≤ 256) : dWide m ≤ 8 := bitLen_le_of_lt _ 8 (by omega)
set_option maxHeartbeats 1000000 in
theorem dwidth_any (m : Nat) (w : World) (h : m ≤ 1000000) : Calls Tryz.prog 80 #[.int .i64 (m : Nat)] w fun e w' => e = .returned (.int .i64 (dWide m : Nat)) ∧ w = w' := by
 obtain ⟨k, hk⟩ : ∃ k, k = m - 1 := ⟨_, rfl⟩
 have hmax := fun w' : World => run_max_int2 (P := Tryz.prog) (w := w') #[3, 3] 3 .i64 ((m : Int) - 1) 0 (k : Int) (by omega)
 have hk2 : k ≤ 1000000 := by omega
 have hW := width_n k
 rw [show bitLen k = dWide m by unfold dWide; rw [hk]] at hW
 have HW := Lib.hid hW
 clear hk hW
 go_enter Tryz.func80, Tryz.ntmps80
 go_wp2_with fail
 refine (HW.out _ (by omega)).mono ?_
 rintro e x ⟨rfl, rfl⟩
 go_wp2
 go_ret
 exact ⟨rfl, rfl⟩
set_option maxHeartbeats 1000000 in
theorem rdwidth_any (m : Nat) (w : World) (h : m ≤ 1000000) : Calls Tryz.prog 49 #[.int .i64 (m : Nat)] w fun e w' => e = .returned (.int .i64 (dWide m : Nat)) ∧ w = w' := by
 obtain ⟨k, hk⟩ : ∃ k, k = m - 1 := ⟨_, rfl⟩
 have hmax := fun w' : World => run_max_int2 (P := Tryz.prog) (w := w') #[3, 3] 3 .i64 ((m : Int) - 1) 0 (k : Int) (by omega)
 have hk2 : k ≤ 1000000 := by omega
 have hW := rwidth_n k
 rw [show bitLen k = dWide m by unfold dWide; rw [hk]] at hW
 have HW := Lib.hid hW
 clear hk hW
 go_enter Tryz.func49, Tryz.ntmps49
 go_wp2_with fail
 refine (HW.out _ (by omega)).mono ?_
 rintro e x ⟨rfl, rfl⟩
 go_wp2
 go_ret
 exact ⟨rfl, rfl⟩
set_option maxHeartbeats 1000000 in
theorem rdEnc_any (ao : Option Addr) (n cap m : Nat) (l : List Nat) (w : World) (hm : m ≤ 256) (hl : l.length = n) (hn : n ≤ 100000) (hc : CellsAt w w.heap.size ao n (nic l)) (hb : ∀ x ∈ l, x < 18446744073709551616) :
 Calls Tryz.prog 21 #[.slice ao n cap, .int .i64 (m : Nat)] w (GaveB w (levAny l (dWide m : Nat))) := by
 have HE := Lib.hid (rlevE_any ao n cap (dWide m) l w hl hn hc hb (by have := dWide_le m hm; omega))
 have HW := Lib.hid (rdwidth_any m w (by omega))
 clear hb hl hc
 go_enter Tryz.func21, Tryz.ntmps21
 go_wp2_with fail
 refine HW.out.mono ?_
 rintro e x ⟨rfl, rfl⟩
 go_wp2_with fail
 refine HE.out.mono ?_
 intro e x hg
 obtain ⟨aoE, nE, capE, rfl, HnE, hcE, hzE, hrE, hx⟩ := hg.opened
 have Hg := Lib.hid (GaveB.of (w := w) HnE.out.symm hrE hx)
 clear hg hcE hzE hrE hx
 go_wp2
 go_ret
 exact Hg.out
def dDec (b : List Nat) (n : Int) (ws : List Vl) : List Vl × Nat :=
 if 256 < ws.length then ([], 4)
 else if (levDec b n (dWide ws.length : Nat)).2 ≠ 0 then ([], (levDec b n (dWide ws.length : Nat)).2)
 else if (levDec b n (dWide ws.length : Nat)).1.all (· < ws.length) then ((levDec b n (dWide ws.length : Nat)).1.map (fun k => ws.getD k vl0), 0) else ([], 10)
def GaveVals (w : World) (r : List Vl × Nat) (e : Ending) (w' : World) : Prop := ∃ v, e = .returned (.tuple #[v, .int .i64 (r.2 : Nat)]) ∧ w'.ownsRow w.heap.size 81 2 v r.1.length (vcs r.1) ∧ Below w.heap.size w w'
theorem GaveVals.opened {w w' : World} {r : List Vl × Nat} {e : Ending} (h : GaveVals w r e w') :
 ∃ ao n cap, e = .returned (.tuple #[.slice ao n cap, .int .i64 (r.2 : Nat)]) ∧ Hid (r.1.length = n) ∧ n ≤ cap ∧ CellsAt w' w'.heap.size ao (n * 2) (vlc r.1) ∧ Below w.heap.size w w' := by
 obtain ⟨v, rfl, ho, hb⟩ := h
 obtain ⟨ao, cap, rfl, h1, h2, h3, h4, -⟩ := own_v ho
 exact ⟨ao, _, cap, rfl, Lib.hid rfl, h2, h3, hb⟩
def vFil (l : List Vl) (n k : Nat) : List Vl := l.take k ++ List.replicate (n - k) vl0
theorem vFil_zero (l : List Vl) (n : Nat) : vFil l n 0 = List.replicate n vl0 := by simp [vFil]
theorem vFil_all (l : List Vl) (n : Nat) (h : l.length = n) : vFil l n n = l := by simp [vFil, ← h]
theorem vFil_length (l : List Vl) (n k : Nat) (h : l.length = n) (hk : k ≤ n) : (vFil l n k).length = n := by simp [vFil]; omega
theorem vFil_set (l : List Vl) (n k : Nat) (h : l.length = n) (hk : k < n) : (vFil l n k).set k (l.getD k vl0) = vFil l n (k + 1) := by
 unfold vFil
 have hl : (l.take k).length = k := by simp; omega
 rw [List.set_append_right _ _ (by rw [hl]; exact Nat.le_refl _), hl, Nat.sub_self, show n - k = (n - (k + 1)) + 1 by omega, List.replicate_succ, List.set_cons_zero, show l.take (k + 1) = l.take k ++ [l[k]] from List.take_succ_eq_append_getElem (by omega), List.getD_eq_getElem?_getD, List.getElem?_eq_getElem (by omega)]
 simp [-List.take_append_getElem]
theorem madeVD (n : Nat) : (madeCells #[Value.int .i64 0, Value.string ByteArray.empty] (n * 2)).toList = vcs (List.replicate n vl0) := by
 refine List.ext_getElem (by simp [madeCells, vcs_length]) fun i h1 h2 => ?_
 have hi : i < n * 2 := by simpa [madeCells] using h1
 have hv : (vcs (List.replicate n vl0))[i]? = some (vlc (List.replicate n vl0) i) := by
  unfold vcs
  rw [List.getElem?_map, List.length_replicate, List.getElem?_range hi]; rfl
 rw [List.getElem?_eq_getElem h2] at hv
 rw [Option.some.inj hv]
 have hg : (List.replicate n vl0).getD (i / 2) vl0 = vl0 := by
  rw [List.getD_eq_getElem?_getD, List.getElem?_replicate, if_pos (by omega)]; rfl
 unfold vlc vN vS
 rw [hg]
 simp only [madeCells]
 rcases Nat.mod_two_eq_zero_or_one i with h | h
 · rw [if_pos h]; simp [h, vl0]
 · rw [if_neg (by omega)]; simp [h, vl0]
theorem vcs_setD (l : List Vl) (k : Nat) (v : Vl) (h : k < l.length) : ((vcs l).set (k * 2) (.int .i64 v.1)).set (k * 2 + 1) (.string v.2) = vcs (l.set k v) := by
 refine List.ext_getElem (by simp [vcs_length]) fun i h1 h2 => ?_
 have hi : i < l.length * 2 := by simpa [vcs_length] using h1
 have e1 : ∀ m : List Vl, m.length = l.length → (vcs m)[i]? = some (vlc m i) := fun m hm => by
  unfold vcs
  rw [List.getElem?_map, hm, List.getElem?_range hi]; rfl
 have e2 := e1 (l.set k v) (by simp)
 have e3 := e1 l rfl
 rw [List.getElem?_eq_getElem h2] at e2
 rw [Option.some.inj e2]
 rw [List.getElem_set, List.getElem_set]
 have hv : (vcs l)[i]'(by rw [vcs_length]; exact hi) = vlc l i := by
  rw [List.getElem?_eq_getElem (by rw [vcs_length]; exact hi)] at e3
  exact Option.some.inj e3
 rw [hv]
 unfold vlc vN vS
 have hg : (l.set k v).getD (i / 2) vl0 = if k = i / 2 then v else l.getD (i / 2) vl0 := by
  simp only [List.getD_eq_getElem?_getD]
  by_cases h3 : k = i / 2
  · rw [if_pos h3, ← h3, List.getElem?_set_self h]; rfl
  · rw [if_neg h3, List.getElem?_set_ne h3]
 rw [hg]
 by_cases h3 : k * 2 + 1 = i
 · rw [if_pos h3, if_neg (by omega), if_pos (by omega)]
 · rw [if_neg h3]
   by_cases h4 : k * 2 = i
   · rw [if_pos h4, if_pos (by omega), if_pos (by omega)]
   · rw [if_neg h4]
     have h5 : ¬ k = i / 2 := by omega
     rw [if_neg h5]
theorem vcs_at (l : List Vl) (j : Nat) (h : j < l.length * 2) : (vcs l)[j]? = some (vlc l j) := by
 unfold vcs
 rw [List.getElem?_map, List.getElem?_range h]; rfl
theorem dDec_many (b : List Nat) (n : Int) (ws : List Vl) (h : 256 < ws.length) : dDec b n ws = ([], 4) := by unfold dDec; rw [if_pos h]
set_option maxHeartbeats 4000000 in
set_option maxRecDepth 100000 in
theorem dDecode_any (ao : Option Addr) (L cap : Nat) (n : Int) (aoW : Option Addr) (m capW : Nat) (b : List Nat) (ws : List Vl) (w : World) (hl : b.length = L) (hc : CellsAt w w.heap.size ao L (u8c b)) (hz : ao = none → L = 0) (hcap : L ≤ cap) (h256 : ∀ x ∈ b, x < 256) (hb : L ≤ 1000000)
 (hm : ws.length = m) (hm2 : m ≤ 1000000) (hw : CellsAt w w.heap.size aoW (m * 2) (vlc ws)) :
 Calls Tryz.prog 56 #[.slice ao L cap, .int .i64 n, .slice aoW m capW] w (GaveVals w (dDec b n ws)) := by
 by_cases hmany : 256 < m
 · rw [dDec_many b n ws (by omega)]
   have e1 : (256 : Int) < (m : Int) := by omega
   clear hc hw hl
   go_enter Tryz.func56, Tryz.ntmps56
   go_wp2
   go_ret2
   exact ⟨_, rfl, World.ownsRow_nil _ _ _ _, Below.refl _ _⟩
 have e1 : ¬ (256 : Int) < (m : Int) := by omega
 have hW := dwidth_any m
 have hD := ldec_any ao L cap n (dWide m : Nat) b w hl hc hz hcap h256 (by omega)
 obtain ⟨D, hDe⟩ : ∃ D, D = dDec b n ws := ⟨_, rfl⟩
 rw [← hDe]
 have hlen := levDec_len b n (dWide m : Nat)
 unfold dDec at hDe
 rw [hm, if_neg hmany] at hDe
 obtain ⟨r, hr⟩ : ∃ r, r = levDec b n (dWide m : Nat) := ⟨_, rfl⟩
 rw [← hr] at hD hDe hlen
 have HD := Lib.hid hD; have HW := Lib.hid (hW w hm2); have HDe := Lib.hid hDe; have Hlen := Lib.hid hlen; have Hm := Lib.hid hm; have Hw := Lib.hid hw
 clear hD hW hDe hr hlen hm hw hl hc h256
 by_cases he : r.2 = 0
 · have b1 : ((r.2 : Int) != 0) = false := by rw [bne_eq_false_iff_eq]; omega
   obtain ⟨i0, hi, hz0, hz1, hz2⟩ := info_parts Tryz.infoV
   have He := Lib.hid he
   go_enter Tryz.func56, Tryz.ntmps56
   go_wp2_with fail
   refine HW.out.mono ?_
   rintro e x ⟨rfl, rfl⟩
   go_wp2_with fail
   refine HD.out.mono ?_
   intro e x1 hg
   obtain ⟨aoA, nA, capA, rfl, HnA, hnA, hcA, hx1⟩ := hg.opened
   have hnA4 : nA ≤ 4000 := by rw [← HnA.out]; exact Hlen.out
   have HcA := Lib.hid hcA; have Hx1 := Lib.hid hx1
   clear hg hcA hx1
   rw [he]
   go_wp2_with (at_make; refine wpList_make_g _ rfl _ _ 31 rfl x1.heap.size 81 i0 (.agg #[.int .i64 0, .string ByteArray.empty]) 2 Tryz.underlying31 hi hz0 hz1 _ _ nA rfl rfl (by rw [hz2]; omega) (by unfold maxLen; omega) (Nat.le_refl _) ?_)
   intro x2 hown0 hgrow0
   have hb0 : Below x1.heap.size x1 x2 := (Below.refl _ _).grown hgrow0 (Nat.le_refl _) (fun k h => by cases h)
   obtain ⟨R, hR⟩ : ∃ R, R = r.1.map (fun k => ws.getD k vl0) := ⟨_, rfl⟩
   have hRl : Hid (R.length = nA) := Lib.hid (by rw [hR, List.length_map, HnA.out])
   have hRk : Hid (∀ j, j < nA → R.getD j vl0 = ws.getD (r.1.getD j 0) vl0) := Lib.hid (fun j hj => by
    have hj2 : j < r.1.length := by rw [HnA.out]; exact hj
    rw [hR]; simp only [List.getD_eq_getElem?_getD, List.getElem?_map]
    rw [List.getElem?_eq_getElem hj2]; rfl)
   have HR := Lib.hid hR
   have hown1 : Hid (x2.ownsRow x1.heap.size 81 2 (.slice (some ⟨x1.heap.size, 0, none⟩) nA nA) nA (vcs (vFil R nA 0))) := Lib.hid (by
    rw [vFil_zero, ← madeVD]; exact hown0)
   have Hb0 := Lib.hid hb0
   clear hown0 hgrow0 hb0 hR
   go_wp2
   go_loopw [33] (fun i x => ∃ j : Nat, j ≤ nA ∧ i = .int .i64 (j : Nat) ∧ Hid (x.ownsRow x1.heap.size 81 2 (.slice (some ⟨x1.heap.size, 0, none⟩) nA nA) nA (vcs (vFil R nA j))) ∧ Hid (∀ i, i < j → r.1.getD i 0 < m) ∧ Hid (Below x1.heap.size x1 x)) (fun i _ => nA - (intOf i).toNat)
   case atStart => exact ⟨0, Nat.zero_le _, rfl, hown1, Lib.hid (fun i h => by omega), Hb0⟩
   case round =>
    clear hown1 Hb0
    obtain ⟨j, hj, rfl, hown1, hall, Hb0⟩ := hrel
    obtain ⟨y, hyy⟩ : ∃ x, x = wr := ⟨_, rfl⟩
    subst hyy
    by_cases hjn : j < nA
    · have e2 : (j : Int) < (nA : Int) := by omega
      have e3 : (0 : Int) ≤ (j : Int) := by omega
      obtain ⟨bA, oA, rfl, hbA, cA⟩ := HcA.out j hjn
      obtain ⟨k, hk⟩ : ∃ k, k = r.1.getD j 0 := ⟨_, rfl⟩
      rw [nic, ← hk] at cA
      have cA2 := (Hb0.out.cell (by exact hbA)).trans cA
      have Hk := Lib.hid hk
      clear hk cA hbA
      by_cases hkm : k < m
      · have e4 : ¬ (m : Int) ≤ (k : Int) := by omega
        have e5 : (k : Int) < (m : Int) := by omega
        have e6 : (0 : Int) ≤ (k : Int) := by omega
        obtain ⟨bW, oW, rfl, hbW, cW0, cW1⟩ := Hw.out.val hkm
        obtain ⟨v, hv⟩ : ∃ v, v = ws.getD k vl0 := ⟨_, rfl⟩
        rw [vN, ← hv] at cW0
        rw [vS, ← hv] at cW1
        have hxy : Below w.heap.size w y := bmore Hx1.out Hb0.out
        have dW0 := (hxy.cell (by exact hbW)).trans cW0
        have dW1 := (hxy.cell (by exact hbW)).trans cW1
        have hc0 := hown1.out.cellAt (j * 2) (by omega)
        have hc1 := hown1.out.cellAt (j * 2 + 1) (by omega)
        rw [vcs_at _ _ (by rw [vFil_length R nA j hRl.out hj]; omega)] at hc0 hc1
        have hf0 := hown1.out.frozenAt (j * 2)
        have hf1 := hown1.out.frozenAt (j * 2 + 1)
        have hst := ((hown1.out.stored (j * 2) (.int .i64 v.1)).1.stored (j * 2 + 1) (.string v.2)).1
        have hvj : v = R.getD j vl0 := by rw [hRk.out j hjn, ← Hk.out, hv]
        rw [vcs_setD _ _ _ (by rw [vFil_length R nA j hRl.out hj]; exact hjn), hvj, vFil_set R nA j hRl.out hjn, ← hvj] at hst
        have Hst := Lib.hid hst
        have Hbs := Lib.hid (show Below x1.heap.size x1 ((y.setCell ⟨x1.heap.size, j * 2, none⟩ (.int .i64 v.1)).setCell ⟨x1.heap.size, j * 2 + 1, none⟩ (.string v.2)) from (Hb0.out.setCell (by exact Nat.le_refl _) _).setCell (by exact Nat.le_refl _) _)
        have hall2 : Hid (∀ i, i < j + 1 → r.1.getD i 0 < m) := Lib.hid (fun i hi => by
         by_cases h : i = j
         · subst h; rw [← Hk.out]; exact hkm
         · exact hall.out i (by omega))
        clear hv cW0 cW1 hst hvj hxy hown1 hall hbW
        go_wp2
        go_roundw
        case rel => exact ⟨j + 1, by omega, by go_num, Hst, hall2, Hbs⟩
        case measure => simp [intOf]; omega
      · have e4 : (m : Int) ≤ (k : Int) := by omega
        have hbad : Hid (D = ([], 10)) := Lib.hid (by
         rw [HDe.out, if_neg (by rw [He.out]; simp), if_neg]
         rw [List.all_eq_true]
         intro h
         have h2 := h (r.1.getD j 0) (by rw [List.getD_eq_getElem?_getD, List.getElem?_eq_getElem (by rw [HnA.out]; exact hjn)]; exact List.getElem_mem _)
         rw [← Hk.out, decide_eq_true_iff] at h2
         exact hkm h2)
        have hxy := Lib.hid (bmore Hx1.out Hb0.out)
        clear hown1 hall
        go_wp2
        go_ret2
        rw [hbad.out]
        exact ⟨_, rfl, World.ownsRow_nil _ _ _ _, hxy.out⟩
    · have e2 : ¬ (j : Int) < (nA : Int) := by omega
      have hok : Hid (D = (R, 0)) := Lib.hid (by
       rw [HDe.out, if_neg (by rw [He.out]; simp), if_pos, ← HR.out]
       rw [List.all_eq_true]
       intro k hk
       obtain ⟨i, hi2, rfl⟩ := List.mem_iff_getElem.1 hk
       have h2 := hall.out i (by rw [HnA.out] at hi2; omega)
       rw [List.getD_eq_getElem?_getD, List.getElem?_eq_getElem hi2] at h2
       exact decide_eq_true h2)
      have hfin : Hid (y.ownsRow w.heap.size 81 2 (.slice (some ⟨x1.heap.size, 0, none⟩) nA nA) R.length (vcs R)) := Lib.hid (by
       have h := hown1.out
       rw [show j = nA by omega, vFil_all R nA hRl.out] at h
       rw [hRl.out]
       exact own_base h Hx1.out.size)
      have hxy := Lib.hid (bmore Hx1.out Hb0.out)
      clear hown1 hall
      go_wp2
      go_ret2
      rw [hok.out]
      exact ⟨_, rfl, hfin.out, hxy.out⟩
 · have b1 : ((r.2 : Int) != 0) = true := by rw [bne_iff_ne]; omega
   have hbad : Hid (D = ([], r.2)) := Lib.hid (by rw [HDe.out, if_pos he])
   clear he
   go_enter Tryz.func56, Tryz.ntmps56
   go_wp2_with fail
   refine HW.out.mono ?_
   rintro e x ⟨rfl, rfl⟩
   go_wp2_with fail
   refine HD.out.mono ?_
   intro e x1 hg
   obtain ⟨aoA, nA, capA, rfl, HnA, -, -, hx1⟩ := hg.opened
   have Hx1 := Lib.hid hx1
   clear hg hx1
   go_wp2
   go_ret2
   rw [hbad.out]
   exact ⟨_, rfl, World.ownsRow_nil _ _ _ _, Hx1.out⟩
set_option maxHeartbeats 4000000 in
set_option maxRecDepth 100000 in
theorem rdDecode_any (ao : Option Addr) (L cap : Nat) (n : Int) (aoW : Option Addr) (m capW : Nat) (b : List Nat) (ws : List Vl) (w : World) (hl : b.length = L) (hc : CellsAt w w.heap.size ao L (u8c b)) (hz : ao = none → L = 0) (h256 : ∀ x ∈ b, x < 256) (hb : L ≤ 1000000)
 (hm : ws.length = m) (hm2 : m ≤ 1000000) (hw : CellsAt w w.heap.size aoW (m * 2) (vlc ws)) :
 Calls Tryz.prog 35 #[.slice ao L cap, .int .i64 n, .slice aoW m capW] w (GaveVals w (dDec b n ws)) := by
 by_cases hmany : 256 < m
 · rw [dDec_many b n ws (by omega)]
   have e1 : (256 : Int) < (m : Int) := by omega
   clear hc hw hl
   go_enter Tryz.func35, Tryz.ntmps35
   go_wp2
   go_ret2
   exact ⟨_, rfl, World.ownsRow_nil _ _ _ _, Below.refl _ _⟩
 have e1 : ¬ (256 : Int) < (m : Int) := by omega
 have hW := rdwidth_any m
 have hD := rldec_any ao L cap n (dWide m : Nat) b w hl hc hz h256 hb
 obtain ⟨D, hDe⟩ : ∃ D, D = dDec b n ws := ⟨_, rfl⟩
 rw [← hDe]
 have hlen := levDec_len b n (dWide m : Nat)
 unfold dDec at hDe
 rw [hm, if_neg hmany] at hDe
 obtain ⟨r, hr⟩ : ∃ r, r = levDec b n (dWide m : Nat) := ⟨_, rfl⟩
 rw [← hr] at hD hDe hlen
 have HD := Lib.hid hD; have HW := Lib.hid (hW w hm2); have HDe := Lib.hid hDe; have Hlen := Lib.hid hlen; have Hm := Lib.hid hm; have Hw := Lib.hid hw
 clear hD hW hDe hr hlen hm hw hl hc h256
 by_cases he : r.2 = 0
 · have b1 : ((r.2 : Int) != 0) = false := by rw [bne_eq_false_iff_eq]; omega
   have He := Lib.hid he
   go_enter Tryz.func35, Tryz.ntmps35
   go_wp2_with fail
   refine HW.out.mono ?_
   rintro e x ⟨rfl, rfl⟩
   go_wp2_with fail
   refine HD.out.mono ?_
   intro e x1 hg
   obtain ⟨aoA, nA, capA, rfl, HnA, hnA, hcA, hx1⟩ := hg.opened
   have hnA4 : nA ≤ 4000 := by rw [← HnA.out]; exact Hlen.out
   have HcA := Lib.hid hcA; have Hx1 := Lib.hid hx1
   obtain ⟨R, hR⟩ : ∃ R, R = r.1.map (fun k => ws.getD k vl0) := ⟨_, rfl⟩
   have hRl : Hid (R.length = nA) := Lib.hid (by rw [hR, List.length_map, HnA.out])
   have hRk : Hid (∀ j, j < nA → R.getD j vl0 = ws.getD (r.1.getD j 0) vl0) := Lib.hid (fun j hj => by
    have hj2 : j < r.1.length := by rw [HnA.out]; exact hj
    rw [hR]; simp only [List.getD_eq_getElem?_getD, List.getElem?_map]
    rw [List.getElem?_eq_getElem hj2]; rfl)
   have HR := Lib.hid hR
   clear hg hcA hx1 hR
   rw [he]
   go_wp2
   go_loopw [10, 11] (fun v i x => ∃ (j : Nat) (aoV : Option Addr) (capV : Nat), j ≤ nA ∧ v = .slice aoV j capV ∧ i = .int .i64 (j : Nat) ∧ Hid (x.ownsRow x1.heap.size 81 2 (.slice aoV j capV) j (vcs (R.take j))) ∧ Hid (∀ i, i < j → r.1.getD i 0 < m) ∧ Hid (Below x1.heap.size x1 x)) (fun _ i _ => nA - (intOf i).toNat)
   case atStart => exact ⟨0, none, 0, Nat.zero_le _, rfl, rfl, Lib.hid (World.ownsRow_nil _ _ _ _), Lib.hid (fun i h => by omega), Lib.hid (Below.refl _ _)⟩
   case round =>
    obtain ⟨j, aoV, capV, hj, rfl, rfl, hown1, hall, Hb0⟩ := hrel
    obtain ⟨y, hyy⟩ : ∃ x, x = wr := ⟨_, rfl⟩
    subst hyy
    by_cases hjn : j < nA
    · have e2 : (j : Int) < (nA : Int) := by omega
      have e3 : (0 : Int) ≤ (j : Int) := by omega
      obtain ⟨bA, oA, rfl, hbA, cA⟩ := HcA.out j hjn
      obtain ⟨k, hk⟩ : ∃ k, k = r.1.getD j 0 := ⟨_, rfl⟩
      rw [nic, ← hk] at cA
      have cA2 := (Hb0.out.cell (by exact hbA)).trans cA
      have Hk := Lib.hid hk
      clear hk cA hbA
      by_cases hkm : k < m
      · have e4 : ¬ (m : Int) ≤ (k : Int) := by omega
        have e5 : (k : Int) < (m : Int) := by omega
        have e6 : (0 : Int) ≤ (k : Int) := by omega
        obtain ⟨bW, oW, rfl, hbW, cW0, cW1⟩ := Hw.out.val hkm
        obtain ⟨v, hv⟩ : ∃ v, v = ws.getD k vl0 := ⟨_, rfl⟩
        rw [vN, ← hv] at cW0
        rw [vS, ← hv] at cW1
        have hxy : Below w.heap.size w y := bmore Hx1.out Hb0.out
        have dW0 := (hxy.cell (by exact hbW)).trans cW0
        have dW1 := (hxy.cell (by exact hbW)).trans cW1
        have hvj : v = R.getD j vl0 := by rw [hRk.out j hjn, ← Hk.out, hv]
        have Hvj := Lib.hid hvj
        have hownA := own_below hown1.out ((Below.refl _ _).alloc (Nat.le_refl _) (.cells #[.int .i64 v.1, .string v.2] 81))
        have hsA : x1.heap.size ≤ (y.alloc (.cells #[.int .i64 v.1, .string v.2] 81)).heap.size := Nat.le_trans Hb0.out.size (by simp)
        have hall2 : Hid (∀ i, i < j + 1 → r.1.getD i 0 < m) := Lib.hid (fun i hi => by
         by_cases h : i = j
         · subst h; rw [← Hk.out]; exact hkm
         · exact hall.out i (by omega))
        clear hv cW0 cW1 hvj hxy hall hbW
        go_wp2_with (at_builtin; refine wpList_append_all sl_v rfl (.tmp 40) (.tmp 48) rfl rfl hownA rfl (m := 1) (cells_one_v y 81 v) (fun h => by cases h) (fun _ _ => vlc_one _ _) (by unfold maxLen; omega) (by omega) hsA ?_)
        intro v' y2 ho2 hg2
        have hb2 : Below x1.heap.size x1 y2 := (Hb0.out.alloc Hb0.out.size _).grown hg2 hsA (fun k hk => (hownA.lt k hk).1)
        have ho3 : y2.ownsRow x1.heap.size 81 2 v' (j + 1) (vcs (R.take (j + 1))) := by
         have e : R.take (j + 1) = R.take j ++ [v] := by
          rw [List.take_succ_eq_append_getElem (by rw [hRl.out]; exact hjn), Hvj.out, List.getD_eq_getElem?_getD, List.getElem?_eq_getElem (by rw [hRl.out]; exact hjn)]; rfl
         rw [e, ← vcs_snoc]
         exact ho2
        obtain ⟨ao3, cap3, rfl, -⟩ := own_v ho3
        have H3 := Lib.hid ho3; have Hb2 := Lib.hid hb2
        clear ho2 hg2 ho3 hb2 hownA hsA hown1
        go_wp2
        go_roundw
        case rel => exact ⟨j + 1, ao3, cap3, by omega, rfl, by go_num, H3, hall2, Hb2⟩
        case measure => simp [intOf]; omega
      · have e4 : (m : Int) ≤ (k : Int) := by omega
        have hbad : Hid (D = ([], 10)) := Lib.hid (by
         rw [HDe.out, if_neg (by rw [He.out]; simp), if_neg]
         rw [List.all_eq_true]
         intro h
         have h2 := h (r.1.getD j 0) (by rw [List.getD_eq_getElem?_getD, List.getElem?_eq_getElem (by rw [HnA.out]; exact hjn)]; exact List.getElem_mem _)
         rw [← Hk.out, decide_eq_true_iff] at h2
         exact hkm h2)
        have hxy := Lib.hid (bmore Hx1.out Hb0.out)
        clear hown1 hall
        go_wp2
        go_ret2
        rw [hbad.out]
        exact ⟨_, rfl, World.ownsRow_nil _ _ _ _, hxy.out⟩
    · have e2 : ¬ (j : Int) < (nA : Int) := by omega
      have hok : Hid (D = (R, 0)) := Lib.hid (by
       rw [HDe.out, if_neg (by rw [He.out]; simp), if_pos, ← HR.out]
       rw [List.all_eq_true]
       intro k hk
       obtain ⟨i, hi2, rfl⟩ := List.mem_iff_getElem.1 hk
       have h2 := hall.out i (by rw [HnA.out] at hi2; omega)
       rw [List.getD_eq_getElem?_getD, List.getElem?_eq_getElem hi2] at h2
       exact decide_eq_true h2)
      have hfin : Hid (y.ownsRow w.heap.size 81 2 (.slice aoV j capV) R.length (vcs R)) := Lib.hid (by
       have h := hown1.out
       rw [List.take_of_length_le (by rw [hRl.out]; omega)] at h
       rw [hRl.out, show nA = j by omega]
       exact own_base h Hx1.out.size)
      have hxy := Lib.hid (bmore Hx1.out Hb0.out)
      clear hown1 hall
      go_wp2
      go_ret2
      rw [hok.out]
      exact ⟨_, rfl, hfin.out, hxy.out⟩
 · have b1 : ((r.2 : Int) != 0) = true := by rw [bne_iff_ne]; omega
   have hbad : Hid (D = ([], r.2)) := Lib.hid (by rw [HDe.out, if_pos he])
   clear he
   go_enter Tryz.func35, Tryz.ntmps35
   go_wp2_with fail
   refine HW.out.mono ?_
   rintro e x ⟨rfl, rfl⟩
   go_wp2_with fail
   refine HD.out.mono ?_
   intro e x1 hg
   obtain ⟨aoA, nA, capA, rfl, HnA, -, -, hx1⟩ := hg.opened
   have Hx1 := Lib.hid hx1
   clear hg hx1
   go_wp2
   go_ret2
   rw [hbad.out]
   exact ⟨_, rfl, World.ownsRow_nil _ _ _ _, Hx1.out⟩
end Go.Proofs.YtebmbkbnngeabaaGreat
