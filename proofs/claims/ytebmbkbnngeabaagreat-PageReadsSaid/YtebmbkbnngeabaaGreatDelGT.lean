/- Chapter 12: the walk over delta.texts. -/
import Derived.Test.YtebmbkbnngeabaaGreatDelVP
import Derived.Test.YtebmbkbnngeabaaGreatDelM
set_option linter.unusedSimpArgs false
namespace Go.Proofs.YtebmbkbnngeabaaGreat
open Go.RowKit
set_option linter.unusedVariables false
theorem stored_vS {w : World} {base E g n cap : Nat} {l : List Vl} (h : w.ownsRow base E 2 (.slice (some ⟨g, 0, none⟩) n cap) n (vcs l)) (j : Nat) (hj : j < n) (s : ByteArray) (x : Int) (hx : (l.getD j vl0).1 = x) :
 (w.setCell ⟨g, j * 2 + 1, none⟩ (.string s)).ownsRow base E 2 (.slice (some ⟨g, 0, none⟩) n cap) n (vcs (l.set j (x, s))) := by
 have hl : l.length = n := by have := h.1; rw [vcs_length] at this; omega
 have h1 := (h.stored (j * 2 + 1) (.string s)).1
 have e0 : (vcs l).set (j * 2) (.int .i64 x) = vcs l := by
  have hk : j * 2 < (vcs l).length := by simp [vcs]; omega
  have hg : (vcs l)[j * 2]'hk = .int .i64 x := by
   simp only [vcs, List.getElem_map, List.getElem_range]
   rw [Nat.mul_comm, vlc_even, vN, hx]
  rw [← hg, List.set_getElem_self]
 have e : (vcs l).set (j * 2 + 1) (.string s) = vcs (l.set j (x, s)) := by
  rw [← vcs_set l j (x, s) (by omega), e0]
 rw [← e]
 exact h1
def tTo (acc : List Vl) (n : Nat) : List Vl := acc ++ List.replicate (n - acc.length) vl0
theorem tTo_at (acc : List Vl) (n : Nat) (h : acc.length < n) : (tTo acc n).getD acc.length vl0 = vl0 := by
 unfold tTo
 rw [getD_app_ge _ _ _ (Nat.le_refl _), Nat.sub_self, show n - acc.length = (n - (acc.length + 1)) + 1 by omega, List.replicate_succ]; rfl
theorem tTo_set (acc : List Vl) (n : Nat) (h : acc.length < n) (v : Vl) : (tTo acc n).set acc.length v = tTo (acc ++ [v]) n := by
 unfold tTo
 rw [List.set_append_right _ _ (Nat.le_refl _), Nat.sub_self, show n - acc.length = (n - (acc.length + 1)) + 1 by omega, List.replicate_succ, List.set_cons_zero]
 simp
theorem badLen_take (ns : List Int) (j : Nat) (h : j < ns.length) (hb : badLen (ns.take j) = false) (hx : ¬ (ns.getD j 0 < 0 ∨ 100 < ns.getD j 0)) : badLen (ns.take (j + 1)) = false := by
 unfold badLen at hb ⊢
 rw [List.take_succ_eq_append_getElem h, List.any_append, hb]
 rw [List.getD_eq_getElem?_getD, List.getElem?_eq_getElem h] at hx
 simpa using hx
theorem badLen_bad (ns : List Int) (j : Nat) (h : j < ns.length) (hx : ns.getD j 0 < 0 ∨ 100 < ns.getD j 0) : badLen ns = true := by
 unfold badLen
 rw [List.getD_eq_getElem?_getD, List.getElem?_eq_getElem h] at hx
 rw [List.any_eq_true]
 exact ⟨ns[j], List.getElem_mem _, by simpa using hx⟩
theorem badLen_good (ns : List Int) (hb : badLen ns = false) (j : Nat) (h : j < ns.length) : 0 ≤ ns.getD j 0 ∧ ns.getD j 0 ≤ 100 := by
 unfold badLen at hb
 rw [List.any_eq_false] at hb
 have := hb ns[j] (List.getElem_mem _)
 rw [List.getD_eq_getElem?_getD, List.getElem?_eq_getElem h]
 simp at this
 simp only [Option.getD_some]
 omega
set_option maxHeartbeats 8000000 in
set_option maxRecDepth 100000 in
theorem dtexts_any (aoB : Option Addr) (L capB : Nat) (b : List Nat) (aoN : Option Addr) (n capN : Nat) (ns : List Int) (w : World) (hl : b.length = L) (h256 : ∀ x ∈ b, x < 256) (hL : L ≤ 1000000) (hcap : L ≤ capB) (hc : CellsAt w w.heap.size aoB L (u8c b)) (hz : aoB = none → L = 0)
 (hnl : ns.length = n) (hn : n ≤ 4000) (hcN : CellsAt w w.heap.size aoN n (i64c ns)) :
 Calls Tryz.prog 83 #[.slice aoB L capB, .slice aoN n capN] w (GaveDec w (dTexts b ns)) := by
 have Hl := Lib.hid hl; have H256 := Lib.hid h256; have Hc := Lib.hid hc; have Hnl := Lib.hid hnl; have HcN := Lib.hid hcN; have Hz := Lib.hid hz
 obtain ⟨i0, hi, hz0, hz1, hz2⟩ := info_parts Tryz.infoV
 clear hl h256 hc hnl hcN hz
 go_enter Tryz.func83, Tryz.ntmps83
 go_wp2
 go_loopw [13] (fun i z => ∃ j : Nat, j ≤ n ∧ i = .int .i64 (j : Nat) ∧ w = z ∧ Hid (badLen (ns.take j) = false)) (fun i _ => n - (intOf i).toNat)
 case atStart => exact ⟨0, Nat.zero_le _, rfl, rfl, Lib.hid rfl⟩
 case round =>
  obtain ⟨j, hj, rfl, rfl, hgood⟩ := hrel
  by_cases hjn : j < n
  · obtain ⟨bb, off, rfl, -, cx⟩ := HcN.out j hjn
    obtain ⟨x, hx⟩ : ∃ x, x = ns.getD j 0 := ⟨_, rfl⟩
    rw [i64c, ← hx] at cx
    have e1 : (j : Int) < (n : Int) := by omega
    have e2 : (0 : Int) ≤ (j : Int) := by omega
    have Hx := Lib.hid hx
    clear hx
    by_cases hneg : x < 0
    · have d1 : decide (x < 0) = true := decide_eq_true hneg
      have hR : Hid (dTexts b ns = ([], 5)) := Lib.hid (by unfold dTexts; rw [if_pos (badLen_bad ns j (by rw [Hnl.out]; exact hjn) (.inl (by rw [← Hx.out]; exact hneg)))])
      go_wp2
      go_ret2
      rw [hR.out]
      exact ⟨_, rfl, World.ownsRow_nil _ _ _ _, Below.refl _ _⟩
    · by_cases hbig : 100 < x
      · have d1 : decide (x < 0) = false := decide_eq_false hneg
        have d2 : decide (100 < x) = true := decide_eq_true hbig
        have hR : Hid (dTexts b ns = ([], 5)) := Lib.hid (by unfold dTexts; rw [if_pos (badLen_bad ns j (by rw [Hnl.out]; exact hjn) (.inr (by rw [← Hx.out]; exact hbig)))])
        go_wp2
        go_ret2
        rw [hR.out]
        exact ⟨_, rfl, World.ownsRow_nil _ _ _ _, Below.refl _ _⟩
      · have d1 : decide (x < 0) = false := decide_eq_false hneg
        have d2 : decide (100 < x) = false := decide_eq_false hbig
        have hg2 : Hid (badLen (ns.take (j + 1)) = false) := Lib.hid (badLen_take ns j (by rw [Hnl.out]; exact hjn) hgood.out (by rw [← Hx.out]; omega))
        go_wp2
        go_roundw
        case rel => exact ⟨j + 1, by omega, by go_num, by first | rfl | trivial, hg2⟩
        case measure => simp [intOf]; omega
  · obtain rfl : j = n := by omega
    have hgd : Hid (badLen ns = false) := Lib.hid (by have h := hgood.out; rwa [List.take_of_length_le (by rw [Hnl.out]; exact Nat.le_refl _)] at h)
    obtain ⟨R, hR⟩ : ∃ R, R = dTexts b ns := ⟨_, rfl⟩
    have HR0 : Hid (glue [] (cutT (ns.drop 0) b) = R) := Lib.hid (by rw [hR]; unfold dTexts; rw [if_neg (by rw [hgd.out]; decide), List.drop_zero, glue_nil _ (cutT_no ns b)])
    have e1 : ¬ (j : Int) < (j : Int) := by omega
    have HRR := Lib.hid hR
    clear hR hgood hjn hj
    go_wp2_with (at_make; refine wpList_make_full _ rfl _ _ 31 rfl w.heap.size 81 i0 (.agg #[.int .i64 0, .string ByteArray.empty]) 2 Tryz.underlying31 hi hz0 hz1 _ _ _ _ j rfl rfl rfl rfl ?b2 ?b3 (Nat.le_refl _) ?_)
    case b2 => first | (rw [hz2]; omega) | omega
    case b3 => unfold maxLen; omega
    intro y hown0 hgrow0
    rw [madeV] at hown0
    have hby : Below w.heap.size w y := (Below.refl _ _).grown hgrow0 (Nat.le_refl _) (fun k h => by cases h)
    obtain ⟨gO, hgOe⟩ : ∃ gO, gO = w.heap.size := ⟨_, rfl⟩
    have HcB : Hid (CellsAt y gO aoB L (u8c b)) := Lib.hid (by rw [hgOe]; exact Hc.out.below hby)
    have HcN2 : Hid (CellsAt y gO aoN j (i64c ns)) := Lib.hid (by rw [hgOe]; exact HcN.out.below hby)
    rw [← hgOe] at hown0 hby
    have hown : Hid (y.ownsRow gO 81 2 (.slice (some ⟨gO, 0, none⟩) j j) j (vcs (tTo [] j))) := Lib.hid (by
     have e : tTo [] j = List.replicate j vl0 := by simp [tTo]
     rw [e]; exact hown0)
    have Hby : Hid (Below gO w y) := Lib.hid hby
    have HgO : Hid (gO = w.heap.size) := Lib.hid hgOe
    rw [← hgOe]
    clear hown0 hgrow0 hby Hc HcN hgOe
    go_wp2
    go_loopw [0, 29] (fun bv i z => ∃ (k m capC : Nat) (aoC : Option Addr) (b' : List Nat) (acc : List Vl), k ≤ j ∧ m ≤ capC ∧ m ≤ 1000000 ∧ bv = .slice aoC m capC ∧ i = .int .i64 (k : Nat) ∧ Hid (b'.length = m) ∧ Hid (aoC = none → m = 0) ∧ Hid (CellsAt z gO aoC m (u8c b')) ∧ Hid (acc.length = k) ∧ Hid (glue acc (cutT (ns.drop k) b') = R) ∧ Hid (z.ownsRow gO 81 2 (.slice (some ⟨gO, 0, none⟩) j j) j (vcs (tTo acc j))) ∧ Hid (CellsAt z gO aoN j (i64c ns)) ∧ Hid (Below gO w z)) (fun _ i _ => j - (intOf i).toNat)
    case atStart => exact ⟨0, L, capB, aoB, b, [], Nat.zero_le _, hcap, hL, rfl, rfl, Hl, Hz, HcB, Lib.hid rfl, HR0, hown, HcN2, Hby⟩
    case round =>
     clear hown HcB HcN2 Hby HR0
     obtain ⟨k, m, capC, aoC, b', acc, hk, hmc, hmL, rfl, rfl, Hbl, HzC, HcC, Hacc, HR, hown, HcN3, Hbz⟩ := hrel
     obtain ⟨z, hzz⟩ : ∃ z, z = wr := ⟨_, rfl⟩
     subst hzz
     by_cases hkj : k < j
     · obtain ⟨bn, offn, rfl, -, cx⟩ := HcN3.out k hkj
       obtain ⟨x, hx⟩ : ∃ x, x = ns.getD k 0 := ⟨_, rfl⟩
       rw [i64c, ← hx] at cx
       have hxg := badLen_good ns hgd.out k (by rw [Hnl.out]; exact hkj)
       rw [← hx] at hxg
       obtain ⟨q, rfl⟩ : ∃ q : Nat, x = q := ⟨x.toNat, by omega⟩
       have e3 : (k : Int) < (j : Int) := by omega
       have e4 : (0 : Int) ≤ (k : Int) := by omega
       have hdr : Hid (ns.drop k = (q : Int) :: ns.drop (k + 1)) := Lib.hid (by
        rw [List.drop_eq_getElem_cons (by rw [Hnl.out]; exact hkj), hx, List.getD_eq_getElem?_getD, List.getElem?_eq_getElem (by rw [Hnl.out]; exact hkj)]; rfl)
       clear hx
       by_cases hlack : m < q
       · have e5 : (m : Int) < (q : Int) := by omega
         have e5b : decide (m < q) = true := decide_eq_true hlack
         have hR2 : Hid (R = ([], 8)) := Lib.hid (by rw [← HR.out, hdr.out]; exact cutT_lack _ _ _ (by rw [Hbl.out]; omega) _)
         have Hbw : Hid (Below w.heap.size w z) := Lib.hid (by rw [← HgO.out]; exact Hbz.out)
         go_wp2
         go_ret2
         rw [← HRR.out, hR2.out]
         exact ⟨_, rfl, World.ownsRow_nil _ _ _ _, Hbw.out⟩
       · have e5 : ¬ (m : Int) < (q : Int) := by omega
         have e5b : decide (m < q) = false := decide_eq_false hlack
         have e6 : (0 : Int) ≤ (q : Int) := by omega
         have e7 : (q : Int) ≤ (capC : Int) := by omega
         obtain ⟨s, hs⟩ : ∃ s, s = strOf (b'.take q) := ⟨_, rfl⟩
         have hsz : gO ≤ z.heap.size := Nat.le_of_lt (by
          rcases hown.out.2 with ⟨h, -⟩ | ⟨g, _, _, h, -, hg, -⟩
          · cases h
          · simp only [Value.slice.injEq, Option.some.injEq, Addr.mk.injEq] at h
            obtain ⟨⟨rfl, -⟩, -⟩ := h
            exact (Array.getElem?_eq_some_iff.1 hg).1)
         have hcv := conv_grown (w := z) (cap := capC) (l := b'.take q) (n := q) (ao := aoC) (by rw [List.length_take, Hbl.out]; omega) ((HcC.out.mono hsz).take (by omega) |>.congr (fun i hi => (u8c_take _ _ _ hi).symm)) (fun e => by have := HzC.out e; omega) z (Grows.refl _)
         rw [← hs] at hcv
         obtain ⟨d0, d1⟩ := cell_v hown.out k hkj
         have f1 := hown.out.frozenAt (k * 2 + 1)
         have hat : (tTo acc j).getD k vl0 = vl0 := by rw [← Hacc.out]; exact tTo_at acc j (by rw [Hacc.out]; exact hkj)
         have hst := stored_vS hown.out k hkj s 0 (by rw [hat]; rfl)
         have hset : (tTo acc j).set k (0, s) = tTo (acc ++ [(0, s)]) j := by rw [← Hacc.out]; exact tTo_set acc j (by rw [Hacc.out]; exact hkj) (0, s)
         rw [hset] at hst
         obtain ⟨aoC2, hao2, hs2⟩ := slice_from aoC m capC q (by omega) hmc
         have hbst := (Below.refl gO z).setCell (p := ⟨gO, k * 2 + 1, none⟩) (Nat.le_refl _) (.string s)
         have HcC2 : Hid (CellsAt (z.setCell ⟨gO, k * 2 + 1, none⟩ (.string s)) gO aoC2 (m - q) (u8c (b'.drop q))) := Lib.hid (by
          rcases hao2 with h0 | rfl
          · rw [h0]; exact CellsAt.zero
          · have h := drop_cells (p := q) (m := m - q) (HcC.out.below hbst) (by omega)
            rw [List.take_of_length_le (by rw [List.length_drop, Hbl.out]; exact Nat.le_refl _)] at h
            exact h)
         have HzC2 : Hid (aoC2 = none → m - q = 0) := Lib.hid (fun e => by
          rcases hao2 with h0 | h
          · exact h0
          · have : aoC = none := by cases aoC with | none => rfl | some a => rw [e] at h; simp at h
            have := HzC.out this; omega)
         have HR2 : Hid (glue (acc ++ [(0, s)]) (cutT (ns.drop (k + 1)) (b'.drop q)) = R) := Lib.hid (by
          rw [← HR.out, hdr.out, cutT_cons _ _ _ (by rw [Hbl.out]; omega), Int.toNat_natCast, ← hs])
         have Hst := Lib.hid hst; have HcN4 := Lib.hid (HcN3.out.below hbst); have Hbz2 := Lib.hid (Hbz.out.setCell (p := ⟨gO, k * 2 + 1, none⟩) (Nat.le_refl _) (.string s))
         have Hbl2 : Hid ((b'.drop q).length = m - q) := Lib.hid (by rw [List.length_drop, Hbl.out])
         have Hacc2 : Hid ((acc ++ [((0 : Int), s)]).length = k + 1) := Lib.hid (by rw [List.length_append, Hacc.out]; rfl)
         clear hs hat hst hset hbst hao2 hxg hsz
         go_wp2
         go_roundw
         case rel => exact ⟨k + 1, m - q, capC - q, aoC2, b'.drop q, acc ++ [(0, s)], by omega, by omega, by omega, rfl, by go_num, Hbl2, HzC2, HcC2, Hacc2, HR2, Hst, HcN4, Hbz2⟩
         case measure => simp [intOf]; omega
     · obtain rfl : k = j := by omega
       have e3 : ¬ (k : Int) < (k : Int) := by omega
       have hdn : Hid (R = if b'.length ≠ 0 then ([], 9) else (acc, 0)) := Lib.hid (by rw [← HR.out, List.drop_of_length_le (by rw [Hnl.out]; exact Nat.le_refl _)]; exact cutT_done b' acc)
       have Hbw : Hid (Below w.heap.size w z) := Lib.hid (by rw [← HgO.out]; exact Hbz.out)
       by_cases hm : m = 0
       · subst hm
         have hR2 : Hid (R = (acc, 0)) := Lib.hid (by rw [hdn.out, if_neg (by rw [Hbl.out]; simp)])
         have ho : Hid (z.ownsRow w.heap.size 81 2 (.slice (some ⟨gO, 0, none⟩) k k) acc.length (vcs acc)) := Lib.hid (by
          have h := hown.out
          have e : tTo acc k = acc := by unfold tTo; rw [Hacc.out, Nat.sub_self]; simp
          rw [e] at h
          rw [Hacc.out, ← HgO.out]; exact h)
         go_wp2
         go_ret2
         rw [← HRR.out, hR2.out]
         exact ⟨_, rfl, ho.out, Hbw.out⟩
       · have e5 : (0 : Int) < (m : Int) := by omega
         have e5b : decide (0 < m) = true := decide_eq_true (by omega)
         have hR2 : Hid (R = ([], 9)) := Lib.hid (by rw [hdn.out, if_pos (by rw [Hbl.out]; exact hm)])
         go_wp2
         go_ret2
         rw [← HRR.out, hR2.out]
         exact ⟨_, rfl, World.ownsRow_nil _ _ _ _, Hbw.out⟩
end Go.Proofs.YtebmbkbnngeabaaGreat
