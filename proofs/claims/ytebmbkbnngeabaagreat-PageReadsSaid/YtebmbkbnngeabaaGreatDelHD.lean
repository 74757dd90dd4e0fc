/- Chapter 12: the walk over the document's numbers and Decode. -/
import Derived.Test.YtebmbkbnngeabaaGreatDelGD
import Derived.Test.YtebmbkbnngeabaaGreatDelRR
import Derived.Test.YtebmbkbnngeabaaGreatRPlainD
set_option linter.unusedSimpArgs false
namespace Go.Proofs.YtebmbkbnngeabaaGreat
open Go.RowKit
set_option linter.unusedVariables false
def numsV (l : List Int) : List Vl := l.map fun v => (v, ByteArray.empty)
theorem numsV_length (l : List Int) : (numsV l).length = l.length := by simp [numsV]
theorem numsV_step (l : List Int) (j : Nat) (h : j < l.length) : vcs ((numsV l).take j) ++ (List.range (1 * 2)).map (vlc [(l.getD j 0, ByteArray.empty)]) = vcs ((numsV l).take (j + 1)) := by
 rw [vcs_snoc, List.take_succ_eq_append_getElem (by rw [numsV_length]; exact h), List.getD_eq_getElem?_getD, List.getElem?_eq_getElem h]
 simp [numsV]
set_option maxHeartbeats 8000000 in
set_option maxRecDepth 100000 in
theorem rdnumbers_any (kind : Nat) (hk : kind = 2 ∨ kind = 3) (aoB : Option Addr) (L cap : Nat) (b : List Nat) (aoN : Option Addr) (n capN : Nat) (ns : List Int) (used : Nat) (w : World) (hl : b.length = L) (hL : L ≤ 1000000) (hu : used ≤ L) (hnl : ns.length = n) (hn : n ≤ 4000) (hcN : CellsAt w w.heap.size aoN n (i64c ns)) :
 Calls Tryz.prog 68 #[.int .i64 (kind : Nat), .slice aoB L cap, .slice aoN n capN, .int .i64 (used : Nat)] w (GaveDec w (numsT kind (b.drop used) ns)) := by
 have Hl := Lib.hid hl; have Hnl := Lib.hid hnl; have HcN := Lib.hid hcN; have Hk := Lib.hid hk
 obtain ⟨R, hR⟩ : ∃ R, R = numsT kind (b.drop used) ns := ⟨_, rfl⟩
 have hM : Hid (R = if badNum kind ns = true then ([], 14) else if L - used ≠ 0 then ([], 9) else (ns.map fun v => (v, ByteArray.empty), 0)) := Lib.hid (by rw [hR]; unfold numsT; rw [List.length_drop, hl])
 rw [← hR]
 clear hl hnl hcN hk hR
 go_enter Tryz.func68, Tryz.ntmps68
 go_wp2
 go_loopw [10, 11] (fun u i z => ∃ (j : Nat) (aoJ : Option Addr) (capJ : Nat), j ≤ n ∧ u = .slice aoJ j capJ ∧ i = .int .i64 (j : Nat) ∧ Hid (badNum kind (ns.take j) = false) ∧ Hid (z.ownsRow w.heap.size 81 2 (.slice aoJ j capJ) j (vcs ((numsV ns).take j))) ∧ Hid (Below w.heap.size w z)) (fun _ i _ => n - (intOf i).toNat)
 case atStart => exact ⟨0, none, 0, Nat.zero_le _, rfl, rfl, Lib.hid (by simp [badNum]), Lib.hid (World.ownsRow_nil _ _ _ _), Lib.hid (Below.refl _ _)⟩
 case round =>
  obtain ⟨j, aoJ, capJ, hj, rfl, rfl, hgood, hown, hbel⟩ := hrel
  obtain ⟨z, hzz⟩ : ∃ z, z = wr := ⟨_, rfl⟩
  subst hzz
  by_cases hjn : j < n
  · obtain ⟨bb, off, rfl, hbb, cx⟩ := (HcN.out.at hbel.out) j hjn
    obtain ⟨x1, hx⟩ : ∃ x, x = ns.getD j 0 := ⟨_, rfl⟩
    rw [i64c, ← hx] at cx
    have e1 : (j : Int) < (n : Int) := by omega
    have e2 : (0 : Int) ≤ (j : Int) := by omega
    have hst : Hid (vcs ((numsV ns).take j) ++ (List.range (1 * 2)).map (vlc [(x1, ByteArray.empty)]) = vcs ((numsV ns).take (j + 1))) := Lib.hid (by rw [hx]; exact numsV_step ns j (by rw [Hnl.out]; exact hjn))
    have Hxv := Lib.hid hx
    clear hx
    have hcase : (kind = 2 ∧ x1 < -2147483648) ∨ (kind = 2 ∧ ¬ x1 < -2147483648 ∧ 2147483647 < x1) ∨ (kind = 2 ∧ ¬ x1 < -2147483648 ∧ ¬ 2147483647 < x1) ∨ kind = 3 := by have := Hk.out; omega
    have hbad : x1 < -2147483648 ∨ 2147483647 < x1 → kind = 2 → Hid (R = ([], 14)) := fun h h2 => Lib.hid (by
     rw [hM.out, if_pos]
     subst h2
     exact badNum_bad ns j (by rw [Hnl.out]; exact hjn) (by rw [← Hxv.out]; exact h))
    have hok : (kind = 2 → ¬ (x1 < -2147483648 ∨ 2147483647 < x1)) → Hid (badNum kind (ns.take (j + 1)) = false) := fun h => Lib.hid (badNum_take kind ns j (by rw [Hnl.out]; exact hjn) hgood.out (fun h2 => by rw [← Hxv.out]; exact h (by omega)))
    rcases hcase with ⟨g1, g3⟩ | ⟨g1, g3, g4⟩ | ⟨g1, g3, g4⟩ | g1
    · have q0 : ((kind : Int) == 2) = true := by rw [beq_iff_eq]; omega
      have q2 : decide (x1 < -2147483648) = true := decide_eq_true g3
      have hR2 := hbad (.inl g3) g1
      clear g1 hbad hok
      go_wp2
      go_ret2
      rw [hR2.out]
      exact GaveDec.none 14 hbel.out
    · have q0 : ((kind : Int) == 2) = true := by rw [beq_iff_eq]; omega
      have q2 : decide (x1 < -2147483648) = false := decide_eq_false g3
      have q3 : decide (2147483647 < x1) = true := decide_eq_true g4
      have hR2 := hbad (.inr g4) g1
      clear g1 hbad hok
      go_wp2
      go_ret2
      rw [hR2.out]
      exact GaveDec.none 14 hbel.out
    all_goals
     have hownA := own_below hown.out ((Below.refl _ _).alloc (Nat.le_refl _) (.cells #[.int .i64 x1, .string ByteArray.empty] 81))
     have hsA : w.heap.size ≤ (z.alloc (.cells #[.int .i64 x1, .string ByteArray.empty] 81)).heap.size := Nat.le_trans hbel.out.size (by simp)
     have hcv := cells_one_v z 81 (x1, ByteArray.empty)
    · have q0 : ((kind : Int) == 2) = true := by rw [beq_iff_eq]; omega
      have q2 : decide (x1 < -2147483648) = false := decide_eq_false g3
      have q3 : decide (2147483647 < x1) = false := decide_eq_false g4
      have hg2 := hok (fun _ => by omega)
      clear g1 hbad hok
      go_wp2_with (at_builtin; refine wpList_append_all sl_v rfl (.tmp 34) (.tmp 40) rfl rfl hownA rfl (m := 1) hcv (fun h => by cases h) (fun _ _ => vlc_one _ _) (by unfold maxLen; omega) (by omega) hsA ?_)
      intro v' y2 ho2 hgr
      have hb2 : Below w.heap.size w y2 := (balloc hbel.out (.cells #[.int .i64 x1, .string ByteArray.empty] 81)).grown hgr hsA (fun k hk => (hownA.lt k hk).1)
      have ho3 : y2.ownsRow w.heap.size 81 2 v' (j + 1) (vcs ((numsV ns).take (j + 1))) := by rw [← hst.out]; exact ho2
      obtain ⟨ao3, cap3, hv3, -⟩ : ∃ ao3 cap3, v' = .slice ao3 (j + 1) cap3 ∧ True := by
       rcases ho3.2 with ⟨-, h⟩ | ⟨g, c2, _, h, -⟩
       · omega
       · exact ⟨_, c2, h, trivial⟩
      subst hv3
      have H3 := Lib.hid ho3; have Hb2 := Lib.hid hb2
      clear ho2 hgr ho3 hb2 hownA hsA hown hcv hbel
      go_wp2
      go_roundw
      case rel => exact ⟨j + 1, ao3, cap3, by omega, rfl, by go_num, hg2, H3, Hb2⟩
      case measure => simp [intOf]; omega
    · have q0 : ((kind : Int) == 2) = false := by rw [beq_eq_false_iff_ne]; omega
      have q1 : (kind : Int) ≠ 2 := by omega
      have hg2 := hok (fun h => by omega)
      clear g1 hbad hok
      go_wp2_with (at_builtin; refine wpList_append_all sl_v rfl (.tmp 34) (.tmp 40) rfl rfl hownA rfl (m := 1) hcv (fun h => by cases h) (fun _ _ => vlc_one _ _) (by unfold maxLen; omega) (by omega) hsA ?_)
      intro v' y2 ho2 hgr
      have hb2 : Below w.heap.size w y2 := (balloc hbel.out (.cells #[.int .i64 x1, .string ByteArray.empty] 81)).grown hgr hsA (fun k hk => (hownA.lt k hk).1)
      have ho3 : y2.ownsRow w.heap.size 81 2 v' (j + 1) (vcs ((numsV ns).take (j + 1))) := by rw [← hst.out]; exact ho2
      obtain ⟨ao3, cap3, hv3, -⟩ : ∃ ao3 cap3, v' = .slice ao3 (j + 1) cap3 ∧ True := by
       rcases ho3.2 with ⟨-, h⟩ | ⟨g, c2, _, h, -⟩
       · omega
       · exact ⟨_, c2, h, trivial⟩
      subst hv3
      have H3 := Lib.hid ho3; have Hb2 := Lib.hid hb2
      clear ho2 hgr ho3 hb2 hownA hsA hown hcv hbel
      go_wp2
      go_roundw
      case rel => exact ⟨j + 1, ao3, cap3, by omega, rfl, by go_num, hg2, H3, Hb2⟩
      case measure => simp [intOf]; omega
  · obtain rfl : j = n := by omega
    have e1 : ¬ (j : Int) < (j : Int) := by omega
    have hgd : badNum kind ns = false := by have h := hgood.out; rwa [List.take_of_length_le (by rw [Hnl.out]; exact Nat.le_refl _)] at h
    by_cases hm0 : used < L
    · have e5 : (used : Int) < (L : Int) := by omega
      have e5b : decide (used < L) = true := decide_eq_true hm0
      have hR2 : Hid (R = ([], 9)) := Lib.hid (by rw [hM.out, if_neg (by rw [hgd]; decide), if_pos (by omega)])
      clear hgd
      go_wp2
      go_ret2
      rw [hR2.out]
      exact GaveDec.none 9 hbel.out
    · have e5 : ¬ (used : Int) < (L : Int) := by omega
      have e5b : decide (used < L) = false := decide_eq_false hm0
      have hR2 : Hid (R = (ns.map fun v => (v, ByteArray.empty), 0)) := Lib.hid (by rw [hM.out, if_neg (by rw [hgd]; decide), if_neg (by omega)])
      have ho : Hid (z.ownsRow w.heap.size 81 2 (.slice aoJ j capJ) (ns.map fun v => ((v, ByteArray.empty) : Vl)).length (vcs (ns.map fun v => (v, ByteArray.empty)))) := Lib.hid (by
       have h := hown.out
       rw [List.take_of_length_le (by rw [numsV_length, Hnl.out]; exact Nat.le_refl _)] at h
       rw [List.length_map, Hnl.out]; exact h)
      clear hgd
      go_wp2
      go_ret2
      rw [hR2.out]
      exact ⟨_, rfl, ho.out, hbel.out⟩
end Go.Proofs.YtebmbkbnngeabaaGreat
