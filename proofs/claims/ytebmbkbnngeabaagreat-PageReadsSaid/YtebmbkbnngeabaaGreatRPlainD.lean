/- Chapter 11: the walk over the document's Decode. -/
import Derived.Test.YtebmbkbnngeabaaGreatPlainD2
import Derived.Test.YtebmbkbnngeabaaGreatBunC
set_option linter.unusedSimpArgs false
namespace Go.Proofs.YtebmbkbnngeabaaGreat
open Go.RowKit
set_option linter.unusedVariables false
theorem rdTake_err (l : List Nat) (e : Nat) (n : Int) (h : e ≠ 0) : (rdTake l e n).2.2 = e := by
 unfold rdTake; split
 · unfold rdFail; rw [if_neg h]
 · rfl
theorem rdFail_err (l : List Nat) (e c : Nat) (h : e ≠ 0) : (rdFail l e c).2 = e := by
 unfold rdFail; rw [if_neg h]
theorem rdGet_err (l : List Nat) (e : Nat) (n : Int) (h : e ≠ 0) : (rdGet l e n).2.2 = e := rdTake_err _ _ _ h
theorem valueM_err (k : Nat) (l : List Nat) (e : Nat) (h : e ≠ 0) : (valueM k l e).2.2 = e := by
 unfold valueM
 simp only []
 split
 · exact rdGet_err _ _ _ h
 split
 · exact rdGet_err _ _ _ h
 split
 · rw [rdGet_err _ _ _ h]; exact rdFail_err _ _ _ h
 · rw [rdGet_err _ _ _ h]; exact rdTake_err _ _ _ h
theorem decSt_err (k : Nat) (b : List Nat) (j m : Nat) (h : (decSt k j b 0).2.2 ≠ 0) : (decSt k (j + m) b 0).2.2 = (decSt k j b 0).2.2 := by
 induction m with
 | zero => rfl
 | succ m ih =>
  rw [← Nat.add_assoc]
  simp only [decSt]
  rw [valueM_err _ _ _ (by rw [ih]; exact h), ih]
theorem decM_exit (k : Nat) (b : List Nat) (j n : Nat) (l : List Nat) (err : Nat) (h : (decSt k j b 0).2 = (l, err)) (hj : j ≤ n) (hx : j = n ∨ err ≠ 0) :
 decM k b n = if rdEnd l err = 0 then ((decSt k j b 0).1, 0) else ([], rdEnd l err) := by
 rcases hx with rfl | he
 · unfold decM
   simp only [h]
 · have e1 : (decSt k n b 0).2.2 = err := by
    have := decSt_err k b j (n - j) (by rw [h]; exact he)
    rw [show j + (n - j) = n by omega, h] at this
    exact this
   have e2 : ∀ m, rdEnd m err = err := fun m => by unfold rdEnd; rw [if_neg (fun h => he h.1)]
   unfold decM
   simp only [e1, e2, if_neg he]
theorem pdec_next (k : Nat) (b : List Nat) (j : Nat) (l : List Nat) (err : Nat) (h : (decSt k j b 0).2 = (l, err)) :
 decSt k (j + 1) b 0 = ((decSt k j b 0).1 ++ [(valueM k l err).1], (valueM k l err).2) := by
 simp only [decSt, h]
theorem wrap_u32_32 (n : Int) : wrap64 (wrap32 (n % 4294967296)) = IntKind.i32.wrap n := by
 rw [IntKind.wrap_i32]; unfold wrap64 wrap32; omega
set_option maxHeartbeats 2000000 in
set_option maxRecDepth 100000 in
theorem rbools_any (ao : Option Addr) (L cap n : Nat) (b : List Nat) (w : World) (hl : b.length = L) (h256 : ∀ x ∈ b, x < 256) (hL : L ≤ 140737488355328) (hc : CellsAt w w.heap.size ao L (u8c b)) (hn : n ≤ 4000) :
 Calls Tryz.prog 66 #[.slice ao L cap, .int .i64 n] w (GaveDec w (decB b n)) := by
 have hU := runpack_any ao L cap (n : Nat) 1 b w hl h256 (by omega) hc
 have hD : decB b n = if (unpackSpec b n 1).2 = 0 then ((unpackSpec b n 1).1.map fun v => (IntKind.i64.wrap (v : Nat), ByteArray.empty), 0) else ([], (unpackSpec b n 1).2) := rfl
 have hlen := unpack_len_ok b n
 obtain ⟨u, hu⟩ : ∃ u, u = unpackSpec b n 1 := ⟨_, rfl⟩
 rw [← hu] at hU hD hlen
 obtain ⟨ul, er⟩ := u
 simp only at hD hlen
 clear hu hl h256
 have HU := Lib.hid hU; clear hU
 by_cases h0 : er = 0
 · rw [if_pos h0] at hD
   have hul := hlen h0
   subst h0
   have HD := Lib.hid hD; have Hul := Lib.hid hul; clear hD hlen hul
   go_enter Tryz.func66, Tryz.ntmps66
   go_wp2_with fail
   refine HU.out.mono ?_
   rintro e x1 ⟨v1, rfl, hf⟩
   have hx1 := hf.2
   obtain ⟨ao1, n1, cap1, rfl, Hn1, hc1, -, -⟩ := hf.u64
   have hn1 : n1 = n := by rw [Hn1.out, Hul.out]
   subst hn1
   clear hf Hn1
   go_wp2
   go_loopw [8, 9] (fun v i wr => ∃ j : Nat, j ≤ n1 ∧ i = .int .i64 j ∧ wr.ownsRow x1.heap.size 81 2 v j (vcs ((ul.take j).map fun v => (IntKind.i64.wrap (v : Nat), ByteArray.empty))) ∧ Below x1.heap.size x1 wr) (fun _ i _ => n1 - (intOf i).toNat)
   case atStart => exact ⟨0, Nat.zero_le _, rfl, World.ownsRow_nil _ _ _ _, Below.refl _ _⟩
   case round =>
    obtain ⟨j, hj, rfl, hown, hwr⟩ := hrel
    by_cases hlt : j < n1
    · obtain ⟨bb, off, rfl, hb, c0⟩ := hc1 j hlt
      have c0' := (hwr.cell (by exact hb)).trans c0
      obtain ⟨y, hy⟩ : ∃ y, y = ul.getD j 0 := ⟨_, rfl⟩
      rw [u64c, ← hy] at c0'
      have hst : Hid (vcs ((ul.map fun v => ((IntKind.i64.wrap (v : Nat), ByteArray.empty) : Vl)).take j) ++ [vlc [(IntKind.i64.wrap (y : Nat), ByteArray.empty)] 0, vlc [(IntKind.i64.wrap (y : Nat), ByteArray.empty)] 1] = vcs ((ul.take (j + 1)).map fun v => ((IntKind.i64.wrap (v : Nat), ByteArray.empty) : Vl))) := Lib.hid (by
       refine (vcs_snoc _ _).trans ?_
       rw [← List.map_take, List.take_succ_eq_append_getElem (by rw [Hul.out]; exact hlt), List.map_append, hy, List.getD_eq_getElem?_getD, List.getElem?_eq_getElem (by rw [Hul.out]; exact hlt)]
       rfl)
      have e1 : (j : Int) < (n1 : Int) := by omega
      have e2 : (0 : Int) ≤ (j : Int) := by omega
      clear c0 hc1 hc hy
      have hown0 := Lib.hid hown; have hwr0 := Lib.hid hwr
      clear hown hwr
      have hsz : x1.heap.size ≤ wr.heap.size := hwr0.out.size
      go_wp2_with (at_builtin; refine wpList_append_all sl_v rfl (.tmp 25) (.tmp 32) rfl rfl (hown0.out.alloc _) rfl (cells_one_v wr 81 (wrap64 (y : Nat), ByteArray.empty)) (fun e => by cases e) (fun _ _ => vlc_one _ _) ?c1 ?c2 ?c3 ?_)
      case c1 => unfold maxLen; omega
      case c2 => omega
      case c3 => simp; omega
      intro v' y' hown' hgrow
      have e5 : ∀ u : Nat, wrap64 (u : Int) = IntKind.i64.wrap (u : Int) := fun u => (IntWalk.i64_left _).symm
      simp only [e5] at hown'
      rw [hst.out] at hown'
      have hy := (balloc hwr0.out _).grown hgrow (balloc hwr0.out _).size (fun j hj => (hown0.out.lt j hj).1)
      have Hown' := Lib.hid hown'; have Hy := Lib.hid hy
      clear hown' hy hgrow
      go_wp2
      go_roundw
      case rel => exact ⟨j + 1, by omega, by go_num, Hown'.out, Hy.out⟩
      case measure => simp [intOf]; omega
    · obtain rfl : j = n1 := by omega
      have hfull : (ul.take j).map (fun v => ((IntKind.i64.wrap (v : Nat), ByteArray.empty) : Vl)) = ul.map fun v => (IntKind.i64.wrap (v : Nat), ByteArray.empty) := by
       rw [List.take_of_length_le (by rw [Hul.out]; exact Nat.le_refl _)]
      rw [hfull] at hown
      have Hfull := Lib.hid hfull; clear hfull
      have Hown := Lib.hid hown; have Hwr := Lib.hid hwr
      clear hown hwr hc1
      go_wp2
      go_ret2
      rw [HD.out]
      exact ⟨_, rfl, by rw [List.length_map, Hul.out]; exact own_base Hown.out hx1.size, bmore hx1 Hwr.out⟩
 · rw [if_neg h0] at hD
   have HD := Lib.hid hD; clear hD hlen
   have hb : ((er : Int) != 0) = true := by rw [bne_iff_ne]; omega
   clear h0
   go_enter Tryz.func66, Tryz.ntmps66
   go_wp2_with fail
   refine HU.out.mono ?_
   rintro e x1 ⟨v1, rfl, hf⟩
   have hx1 := hf.2
   clear hf
   go_wp2
   go_ret2
   rw [HD.out]
   exact ⟨_, rfl, World.ownsRow_nil _ _ _ _, hx1⟩
set_option maxHeartbeats 8000000 in
set_option maxRecDepth 100000 in
theorem rdecode_2 (ao : Option Addr) (L cap n : Nat) (b : List Nat) (w : World) (hl : b.length = L) (h256 : ∀ x ∈ b, x < 256) (hL : L ≤ 1000000) (hc : CellsAt w w.heap.size ao L (u8c b)) (hz : ao = none → L = 0) (hn : n ≤ 4000) :
 Calls Tryz.prog 33 #[.int .i64 2, .slice ao L cap, .int .i64 n] w (GaveDec w (decM 2 b n)) := by
 have Hl := Lib.hid hl; clear hl
 have H256 := Lib.hid h256; clear h256
 go_enter Tryz.func33, Tryz.ntmps33
 go_wp2_with fail
 refine (rnew_any ao L cap b w Hl.out hc hz (by omega)).mono ?_
 rintro e x1 ⟨g, rfl, hg, hr1, hx1⟩
 have hglt := hr1.lt
 clear hc
 go_wp2
 go_loopw [9, 10] (fun v i wr => ∃ (j at_ err : Nat) (l : List Nat), j ≤ n ∧ i = .int .i64 j ∧ wr.ownsRow (g + 1) 81 2 v j (vcs (decSt 2 j b 0).1) ∧ RRd wr g w.heap.size b at_ err ∧ Hid ((decSt 2 j b 0).2 = (l, err)) ∧ Hid (Rel b l at_ err) ∧ Below w.heap.size w wr) (fun _ i _ => n - (intOf i).toNat)
 case atStart => exact ⟨0, 0, 0, b, Nat.zero_le _, rfl, World.ownsRow_nil _ _ _ _, hr1, Lib.hid rfl, Lib.hid ⟨Nat.zero_le _, fun _ => rfl, fun h => absurd rfl h⟩, hx1⟩
 case round =>
  clear hr1 hx1
  obtain ⟨j, at_, err, l, hj, rfl, hown, hr, hst, hq, hwr⟩ := hrel
  have hglt := hr.lt
  have HR := Lib.hid hr
  obtain ⟨aoR, capR, hgR, -, -, -, -⟩ := hr
  obtain ⟨k0, k1, k2, -, -⟩ := three_cells hgR
  clear hgR
  by_cases hx : j < n ∧ err = 0
  · obtain ⟨hlt, rfl⟩ := hx
    have e1 : (j : Int) < (n : Int) := by omega
    have Hown := Lib.hid hown; have Hwr := Lib.hid hwr
    have hsz := hwr.size
    have hRA : RRd (wr.alloc (.cells #[.int .i64 0, .string ByteArray.empty] 81)) g w.heap.size b at_ 0 := HR.out.keep ((Below.refl _ _).alloc (Nat.le_refl _) _)
    have HRA := Lib.hid hRA
    clear hown hwr hRA
    obtain ⟨p1, p2, p3⟩ := rel_get hq.out 4
    have hG := fun w' h => rrget_any g (lo := w.heap.size) b at_ 0 4 w' h (by rw [Hl.out]; exact hL) hq.out.1 H256.out
    obtain ⟨D, hD⟩ : ∃ D, D = rdGet l 0 4 := ⟨_, rfl⟩
    obtain ⟨G, hGe⟩ : ∃ G, G = rrGet b at_ 0 4 := ⟨_, rfl⟩
    rw [← hD, ← hGe] at p1 p2 p3
    rw [← hGe] at hG
    have HG := Lib.hid hG
    clear hG hGe
    have hv : valueM 2 l 0 = ((IntKind.i32.wrap (G.1 : Nat), ByteArray.empty), D.2.1, G.2.2) := by
     show (((IntKind.i32.wrap ((rdGet l 0 4).1 : Nat), ByteArray.empty) : Vl), (rdGet l 0 4).2) = _
     rw [← hD, p1, ← p2]
    have HV : Hid ((valueM 2 l 0).1 = ((IntKind.i32.wrap (G.1 : Nat), ByteArray.empty) : Vl)) := Lib.hid (by rw [hv])
    have HN : Hid ((valueM 2 l 0).2 = (D.2.1, G.2.2)) := Lib.hid (by rw [hv])
    have HQ := Lib.hid p3
    have Hew : Hid (wrap64 (wrap32 ((G.1 : Nat) % 4294967296)) = IntKind.i32.wrap (G.1 : Nat)) := Lib.hid (wrap_u32_32 _)
    clear hv hD p1 p2 p3
    go_wp2_with fail
    refine (HG.out _ HRA.out).mono ?_
    rintro e y1 ⟨rfl, hr1, hb1⟩
    have hblk := res_cells hglt hb1
    obtain ⟨c0, c1, f0, f1⟩ := two_cells hblk
    have Hr1 := Lib.hid hr1
    have Hb1 := Lib.hid hb1
    clear hr1 hb1
    go_upto_region 20 with fail
    obtain ⟨W, hW⟩ : ∃ W, W = y1.setCell ⟨wr.heap.size, 0, none⟩ (.int .i64 (wrap64 (wrap32 ((G.1 : Nat) % 4294967296)))) := ⟨_, rfl⟩
    have hset : Below wr.heap.size y1 W := by rw [hW]; exact (Below.refl _ _).setCell (by exact Nat.le_refl _) _
    have hbut : But g wr W := ((But.of (balloc (Below.refl _ _) _)).trans Hb1.out).tail hset
    have hb2 := two_set0 hblk (.int .i64 (wrap64 (wrap32 ((G.1 : Nat) % 4294967296))))
    rw [← hW] at hb2
    obtain ⟨d0, d1, -, -⟩ := two_cells hb2
    have hE : ByteArray.empty = ({ data := #[] } : ByteArray) := rfl
    rw [hE] at d1
    have hownW := own_but Hown.out hbut (Nat.lt_succ_self g)
    have hrW := Hr1.out.below hset hglt
    have hWw := hbut.below Hwr.out hg Hwr.out.size
    have hWs : w.heap.size ≤ W.heap.size := hWw.size
    have hgW : g < W.heap.size := Nat.lt_of_lt_of_le hglt hbut.size
    rw [← hW]
    have HownW := Lib.hid hownW; have HrW := Lib.hid hrW; have HWw := Lib.hid hWw
    clear hW hset hbut hownW hrW hWw hb2 hE hblk c0 c1 f0 f1 k0 k1 k2
    go_wp2_with (at_builtin; refine wpList_append_all sl_v rfl (.tmp 77) (.tmp 79) rfl rfl (HownW.out.alloc _) rfl (cells_one_v W 81 (wrap64 (wrap32 ((G.1 : Nat) % 4294967296)), ByteArray.empty)) (fun e => by cases e) (fun _ _ => vlc_one _ _) ?c1 ?c2 ?c3 ?_)
    case c1 => unfold maxLen; omega
    case c2 => omega
    case c3 => simp; omega
    intro v' y' hown' hgrow
    rw [Hew.out] at hown'
    have hfin : vcs (decSt 2 j b 0).1 ++ [vlc [(IntKind.i32.wrap (G.1 : Nat), ByteArray.empty)] 0, vlc [(IntKind.i32.wrap (G.1 : Nat), ByteArray.empty)] 1] = vcs (decSt 2 (j + 1) b 0).1 := by
     refine (vcs_snoc _ _).trans ?_
     rw [pdec_next 2 b j l 0 hst.out]
     rw [HV.out]
    rw [hfin] at hown'
    have hy := (balloc HWw.out _).grown hgrow (balloc HWw.out _).size (fun j hj => Nat.le_trans (by omega) (HownW.out.lt j hj).1)
    have hry := HrW.out.below ((Below.refl (g + 1) W).alloc (by omega) _ |>.grown hgrow (by simp; omega) (fun j hj => (HownW.out.lt j hj).1)) (Nat.lt_succ_self g)
    have hnx : Hid ((decSt 2 (j + 1) b 0).2 = (D.2.1, G.2.2)) := Lib.hid (by rw [pdec_next 2 b j l 0 hst.out]; exact HN.out)
    have Hown' := Lib.hid hown'; have Hy := Lib.hid hy; have Hry := Lib.hid hry
    clear hown' hy hry hgrow hfin
    go_wp2
    go_roundw
    case rel => exact ⟨j + 1, _, _, _, by omega, by go_num, Hown'.out, Hry.out, hnx, HQ, Hy.out⟩
    case measure => simp [intOf]; omega
  · have hxx : j = n ∨ err ≠ 0 := by omega
    have hD := decM_exit 2 b j n l err hst.out hj hxx
    have hre := rel_end hq.out
    obtain ⟨aoV, capV, rfl, hlen, -, -, -, -⟩ := own_v hown
    obtain ⟨E, hE⟩ : ∃ E, E = rdEnd l err := ⟨_, rfl⟩
    rw [← hE] at hD hre
    have HD := Lib.hid hD; have Hre := Lib.hid hre; have Hlen := Lib.hid hlen
    have Hown := Lib.hid hown; have Hwr := Lib.hid hwr
    have hgw : w.heap.size ≤ g + 1 := by omega
    clear hD hre hlen hown hwr hE
    have key : ∀ m, if E = 0 then GaveDec w (decM 2 b n) (.returned (.tuple #[.slice aoV j capV, .int .i64 0])) (wr.drewN m) else GaveDec w (decM 2 b n) (.returned (.tuple #[.slice none 0 0, .int .i64 (E : Nat)])) (wr.drewN m) := by
     intro m
     rw [HD.out]
     split
     · exact ⟨_, rfl, by rw [Hlen.out]; exact own_base (own_drewN Hown.out m) hgw, below_drewN Hwr.out m⟩
     · exact ⟨_, rfl, World.ownsRow_nil _ _ _ _, below_drewN Hwr.out m⟩
    have Key := Lib.hid key; clear key
    by_cases hjn : j < n
    · have he0 : err ≠ 0 := by omega
      have b1 : ((err : Int) == 0) = false := by rw [beq_eq_false_iff_ne]; omega
      have e1 : (j : Int) < (n : Int) := by omega
      go_wp2_with fail
      refine (rend_any g (lo := w.heap.size) b at_ err _ HR.out).mono ?_
      rw [Hre.out]
      rintro e x2 ⟨rfl, m, rfl⟩
      by_cases hE0 : E = 0
      · have kk := Key.out m
        rw [if_pos hE0] at kk
        have Kk := Lib.hid kk
        subst hE0
        clear kk
        go_wp2
        go_ret2
        exact Kk.out
      · have kk := Key.out m
        rw [if_neg hE0] at kk
        have Kk := Lib.hid kk
        have b2 : ((E : Int) != 0) = true := by rw [bne_iff_ne]; omega
        clear kk hE0
        go_wp2
        go_ret2
        exact Kk.out
    · obtain rfl : j = n := by omega
      go_wp2_with fail
      refine (rend_any g (lo := w.heap.size) b at_ err _ HR.out).mono ?_
      rw [Hre.out]
      rintro e x2 ⟨rfl, m, rfl⟩
      by_cases hE0 : E = 0
      · have kk := Key.out m
        rw [if_pos hE0] at kk
        have Kk := Lib.hid kk
        subst hE0
        clear kk
        go_wp2
        go_ret2
        exact Kk.out
      · have kk := Key.out m
        rw [if_neg hE0] at kk
        have Kk := Lib.hid kk
        have b2 : ((E : Int) != 0) = true := by rw [bne_iff_ne]; omega
        clear kk hE0
        go_wp2
        go_ret2
        exact Kk.out
set_option maxHeartbeats 8000000 in
set_option maxRecDepth 100000 in
theorem rdecode_3 (ao : Option Addr) (L cap n : Nat) (b : List Nat) (w : World) (hl : b.length = L) (h256 : ∀ x ∈ b, x < 256) (hL : L ≤ 1000000) (hc : CellsAt w w.heap.size ao L (u8c b)) (hz : ao = none → L = 0) (hn : n ≤ 4000) :
 Calls Tryz.prog 33 #[.int .i64 3, .slice ao L cap, .int .i64 n] w (GaveDec w (decM 3 b n)) := by
 have Hl := Lib.hid hl; clear hl
 have H256 := Lib.hid h256; clear h256
 go_enter Tryz.func33, Tryz.ntmps33
 go_wp2_with fail
 refine (rnew_any ao L cap b w Hl.out hc hz (by omega)).mono ?_
 rintro e x1 ⟨g, rfl, hg, hr1, hx1⟩
 have hglt := hr1.lt
 clear hc
 go_wp2
 go_loopw [9, 10] (fun v i wr => ∃ (j at_ err : Nat) (l : List Nat), j ≤ n ∧ i = .int .i64 j ∧ wr.ownsRow (g + 1) 81 2 v j (vcs (decSt 3 j b 0).1) ∧ RRd wr g w.heap.size b at_ err ∧ Hid ((decSt 3 j b 0).2 = (l, err)) ∧ Hid (Rel b l at_ err) ∧ Below w.heap.size w wr) (fun _ i _ => n - (intOf i).toNat)
 case atStart => exact ⟨0, 0, 0, b, Nat.zero_le _, rfl, World.ownsRow_nil _ _ _ _, hr1, Lib.hid rfl, Lib.hid ⟨Nat.zero_le _, fun _ => rfl, fun h => absurd rfl h⟩, hx1⟩
 case round =>
  clear hr1 hx1
  obtain ⟨j, at_, err, l, hj, rfl, hown, hr, hst, hq, hwr⟩ := hrel
  have hglt := hr.lt
  have HR := Lib.hid hr
  obtain ⟨aoR, capR, hgR, -, -, -, -⟩ := hr
  obtain ⟨k0, k1, k2, -, -⟩ := three_cells hgR
  clear hgR
  by_cases hx : j < n ∧ err = 0
  · obtain ⟨hlt, rfl⟩ := hx
    have e1 : (j : Int) < (n : Int) := by omega
    have Hown := Lib.hid hown; have Hwr := Lib.hid hwr
    have hsz := hwr.size
    have hRA : RRd (wr.alloc (.cells #[.int .i64 0, .string ByteArray.empty] 81)) g w.heap.size b at_ 0 := HR.out.keep ((Below.refl _ _).alloc (Nat.le_refl _) _)
    have HRA := Lib.hid hRA
    clear hown hwr hRA
    obtain ⟨p1, p2, p3⟩ := rel_get hq.out 8
    have hG := fun w' h => rrget_any g (lo := w.heap.size) b at_ 0 8 w' h (by rw [Hl.out]; exact hL) hq.out.1 H256.out
    obtain ⟨D, hD⟩ : ∃ D, D = rdGet l 0 8 := ⟨_, rfl⟩
    obtain ⟨G, hGe⟩ : ∃ G, G = rrGet b at_ 0 8 := ⟨_, rfl⟩
    rw [← hD, ← hGe] at p1 p2 p3
    rw [← hGe] at hG
    have HG := Lib.hid hG
    clear hG hGe
    have hv : valueM 3 l 0 = ((IntKind.i64.wrap (G.1 : Nat), ByteArray.empty), D.2.1, G.2.2) := by
     show (((IntKind.i64.wrap ((rdGet l 0 8).1 : Nat), ByteArray.empty) : Vl), (rdGet l 0 8).2) = _
     rw [← hD, p1, ← p2]
    have HV : Hid ((valueM 3 l 0).1 = ((IntKind.i64.wrap (G.1 : Nat), ByteArray.empty) : Vl)) := Lib.hid (by rw [hv])
    have HN : Hid ((valueM 3 l 0).2 = (D.2.1, G.2.2)) := Lib.hid (by rw [hv])
    have HQ := Lib.hid p3
    have Hew : Hid (wrap64 (G.1 : Nat) = IntKind.i64.wrap (G.1 : Nat)) := Lib.hid ((IntWalk.i64_left _).symm)
    clear hv hD p1 p2 p3
    go_wp2_with fail
    refine (HG.out _ HRA.out).mono ?_
    rintro e y1 ⟨rfl, hr1, hb1⟩
    have hblk := res_cells hglt hb1
    obtain ⟨c0, c1, f0, f1⟩ := two_cells hblk
    have Hr1 := Lib.hid hr1
    have Hb1 := Lib.hid hb1
    clear hr1 hb1
    go_upto_region 20 with fail
    obtain ⟨W, hW⟩ : ∃ W, W = y1.setCell ⟨wr.heap.size, 0, none⟩ (.int .i64 (wrap64 (G.1 : Nat))) := ⟨_, rfl⟩
    have hset : Below wr.heap.size y1 W := by rw [hW]; exact (Below.refl _ _).setCell (by exact Nat.le_refl _) _
    have hbut : But g wr W := ((But.of (balloc (Below.refl _ _) _)).trans Hb1.out).tail hset
    have hb2 := two_set0 hblk (.int .i64 (wrap64 (G.1 : Nat)))
    rw [← hW] at hb2
    obtain ⟨d0, d1, -, -⟩ := two_cells hb2
    have hE : ByteArray.empty = ({ data := #[] } : ByteArray) := rfl
    rw [hE] at d1
    have hownW := own_but Hown.out hbut (Nat.lt_succ_self g)
    have hrW := Hr1.out.below hset hglt
    have hWw := hbut.below Hwr.out hg Hwr.out.size
    have hWs : w.heap.size ≤ W.heap.size := hWw.size
    have hgW : g < W.heap.size := Nat.lt_of_lt_of_le hglt hbut.size
    rw [← hW]
    have HownW := Lib.hid hownW; have HrW := Lib.hid hrW; have HWw := Lib.hid hWw
    clear hW hset hbut hownW hrW hWw hb2 hE hblk c0 c1 f0 f1 k0 k1 k2
    go_wp2_with (at_builtin; refine wpList_append_all sl_v rfl (.tmp 77) (.tmp 79) rfl rfl (HownW.out.alloc _) rfl (cells_one_v W 81 (wrap64 (G.1 : Nat), ByteArray.empty)) (fun e => by cases e) (fun _ _ => vlc_one _ _) ?c1 ?c2 ?c3 ?_)
    case c1 => unfold maxLen; omega
    case c2 => omega
    case c3 => simp; omega
    intro v' y' hown' hgrow
    rw [Hew.out] at hown'
    have hfin : vcs (decSt 3 j b 0).1 ++ [vlc [(IntKind.i64.wrap (G.1 : Nat), ByteArray.empty)] 0, vlc [(IntKind.i64.wrap (G.1 : Nat), ByteArray.empty)] 1] = vcs (decSt 3 (j + 1) b 0).1 := by
     refine (vcs_snoc _ _).trans ?_
     rw [pdec_next 3 b j l 0 hst.out]
     rw [HV.out]
    rw [hfin] at hown'
    have hy := (balloc HWw.out _).grown hgrow (balloc HWw.out _).size (fun j hj => Nat.le_trans (by omega) (HownW.out.lt j hj).1)
    have hry := HrW.out.below ((Below.refl (g + 1) W).alloc (by omega) _ |>.grown hgrow (by simp; omega) (fun j hj => (HownW.out.lt j hj).1)) (Nat.lt_succ_self g)
    have hnx : Hid ((decSt 3 (j + 1) b 0).2 = (D.2.1, G.2.2)) := Lib.hid (by rw [pdec_next 3 b j l 0 hst.out]; exact HN.out)
    have Hown' := Lib.hid hown'; have Hy := Lib.hid hy; have Hry := Lib.hid hry
    clear hown' hy hry hgrow hfin
    go_wp2
    go_roundw
    case rel => exact ⟨j + 1, _, _, _, by omega, by go_num, Hown'.out, Hry.out, hnx, HQ, Hy.out⟩
    case measure => simp [intOf]; omega
  · have hxx : j = n ∨ err ≠ 0 := by omega
    have hD := decM_exit 3 b j n l err hst.out hj hxx
    have hre := rel_end hq.out
    obtain ⟨aoV, capV, rfl, hlen, -, -, -, -⟩ := own_v hown
    obtain ⟨E, hE⟩ : ∃ E, E = rdEnd l err := ⟨_, rfl⟩
    rw [← hE] at hD hre
    have HD := Lib.hid hD; have Hre := Lib.hid hre; have Hlen := Lib.hid hlen
    have Hown := Lib.hid hown; have Hwr := Lib.hid hwr
    have hgw : w.heap.size ≤ g + 1 := by omega
    clear hD hre hlen hown hwr hE
    have key : ∀ m, if E = 0 then GaveDec w (decM 3 b n) (.returned (.tuple #[.slice aoV j capV, .int .i64 0])) (wr.drewN m) else GaveDec w (decM 3 b n) (.returned (.tuple #[.slice none 0 0, .int .i64 (E : Nat)])) (wr.drewN m) := by
     intro m
     rw [HD.out]
     split
     · exact ⟨_, rfl, by rw [Hlen.out]; exact own_base (own_drewN Hown.out m) hgw, below_drewN Hwr.out m⟩
     · exact ⟨_, rfl, World.ownsRow_nil _ _ _ _, below_drewN Hwr.out m⟩
    have Key := Lib.hid key; clear key
    by_cases hjn : j < n
    · have he0 : err ≠ 0 := by omega
      have b1 : ((err : Int) == 0) = false := by rw [beq_eq_false_iff_ne]; omega
      have e1 : (j : Int) < (n : Int) := by omega
      go_wp2_with fail
      refine (rend_any g (lo := w.heap.size) b at_ err _ HR.out).mono ?_
      rw [Hre.out]
      rintro e x2 ⟨rfl, m, rfl⟩
      by_cases hE0 : E = 0
      · have kk := Key.out m
        rw [if_pos hE0] at kk
        have Kk := Lib.hid kk
        subst hE0
        clear kk
        go_wp2
        go_ret2
        exact Kk.out
      · have kk := Key.out m
        rw [if_neg hE0] at kk
        have Kk := Lib.hid kk
        have b2 : ((E : Int) != 0) = true := by rw [bne_iff_ne]; omega
        clear kk hE0
        go_wp2
        go_ret2
        exact Kk.out
    · obtain rfl : j = n := by omega
      go_wp2_with fail
      refine (rend_any g (lo := w.heap.size) b at_ err _ HR.out).mono ?_
      rw [Hre.out]
      rintro e x2 ⟨rfl, m, rfl⟩
      by_cases hE0 : E = 0
      · have kk := Key.out m
        rw [if_pos hE0] at kk
        have Kk := Lib.hid kk
        subst hE0
        clear kk
        go_wp2
        go_ret2
        exact Kk.out
      · have kk := Key.out m
        rw [if_neg hE0] at kk
        have Kk := Lib.hid kk
        have b2 : ((E : Int) != 0) = true := by rw [bne_iff_ne]; omega
        clear kk hE0
        go_wp2
        go_ret2
        exact Kk.out
set_option maxHeartbeats 8000000 in
set_option maxRecDepth 100000 in
theorem rdecode_4 (ao : Option Addr) (L cap n : Nat) (b : List Nat) (w : World) (hl : b.length = L) (h256 : ∀ x ∈ b, x < 256) (hL : L ≤ 1000000) (hc : CellsAt w w.heap.size ao L (u8c b)) (hz : ao = none → L = 0) (hn : n ≤ 4000) :
 Calls Tryz.prog 33 #[.int .i64 4, .slice ao L cap, .int .i64 n] w (GaveDec w (decM 4 b n)) := by
 have Hl := Lib.hid hl; clear hl
 have H256 := Lib.hid h256; clear h256
 go_enter Tryz.func33, Tryz.ntmps33
 go_wp2_with fail
 refine (rnew_any ao L cap b w Hl.out hc hz (by omega)).mono ?_
 rintro e x1 ⟨g, rfl, hg, hr1, hx1⟩
 have hglt := hr1.lt
 clear hc
 go_wp2
 go_loopw [9, 10, 12] (fun v i c wr => ∃ (j at_ err : Nat) (l : List Nat), j ≤ n ∧ i = .int .i64 j ∧ wr.ownsRow (g + 1) 81 2 v j (vcs (decSt 4 j b 0).1) ∧ RRd wr g w.heap.size b at_ err ∧ Hid ((decSt 4 j b 0).2 = (l, err)) ∧ Hid (Rel b l at_ err) ∧ Below w.heap.size w wr) (fun _ i c _ => n - (intOf i).toNat)
 case atStart => exact ⟨0, 0, 0, b, Nat.zero_le _, rfl, World.ownsRow_nil _ _ _ _, hr1, Lib.hid rfl, Lib.hid ⟨Nat.zero_le _, fun _ => rfl, fun h => absurd rfl h⟩, hx1⟩
 case round =>
  clear hr1 hx1
  obtain ⟨j, at_, err, l, hj, rfl, hown, hr, hst, hq, hwr⟩ := hrel
  have hglt := hr.lt
  have HR := Lib.hid hr
  obtain ⟨aoR, capR, hgR, -, -, -, -⟩ := hr
  obtain ⟨k0, k1, k2, -, -⟩ := three_cells hgR
  clear hgR
  by_cases hx : j < n ∧ err = 0
  · obtain ⟨hlt, rfl⟩ := hx
    have e1 : (j : Int) < (n : Int) := by omega
    have Hown := Lib.hid hown; have Hwr := Lib.hid hwr
    have hsz := hwr.size
    have hRA : RRd (wr.alloc (.cells #[.int .i64 0, .string ByteArray.empty] 81)) g w.heap.size b at_ 0 := HR.out.keep ((Below.refl _ _).alloc (Nat.le_refl _) _)
    have HRA := Lib.hid hRA
    clear hown hwr hRA
    obtain ⟨p1, p2, p3⟩ := rel_get hq.out 4
    have hG := fun w' h => rrget_any g (lo := w.heap.size) b at_ 0 4 w' h (by rw [Hl.out]; exact hL) hq.out.1 H256.out
    obtain ⟨D, hD⟩ : ∃ D, D = rdGet l 0 4 := ⟨_, rfl⟩
    obtain ⟨G, hGe⟩ : ∃ G, G = rrGet b at_ 0 4 := ⟨_, rfl⟩
    rw [← hD, ← hGe] at p1 p2 p3
    rw [← hGe] at hG
    have HG := Lib.hid hG
    have hDe := hD
    clear hG hGe hD
    by_cases h100 : 100 < G.1
    · obtain ⟨F, hF⟩ : ∃ F, F = (if G.2.2 = 0 then 5 else G.2.2) := ⟨_, rfl⟩
      have hF0 : F ≠ 0 := by rw [hF]; split <;> omega
      obtain ⟨q1, q2⟩ := rel_fail p3 5
      rw [← hF] at q1 q2
      obtain ⟨X, hX⟩ : ∃ X, X = (rdFail D.2.1 G.2.2 5).1 := ⟨_, rfl⟩
      rw [← hX] at q2
      have hT0 : ∀ n, rrTake b G.2.1 F n = ([], G.2.1, F) := fun n => by unfold rrTake; rw [if_pos (.inl hF0)]
      have hTk := fun w' h => rrtake_any g (lo := w.heap.size) b G.2.1 F (wrap64 (G.1 : Nat)) w' h (by rw [Hl.out]; exact hL) p3.1
      obtain ⟨T, hT⟩ : ∃ T, T = rrTake b G.2.1 F (wrap64 (G.1 : Nat)) := ⟨_, rfl⟩
      rw [← hT] at hTk
      have hTe : T = ([], G.2.1, F) := by rw [hT, hT0]
      have hv : valueM 4 l 0 = (vl0, rdFail D.2.1 G.2.2 5) := by
       unfold valueM; simp only [show ¬ ((4 : Nat) = 2) by decide, show ¬ ((4 : Nat) = 3) by decide, if_false]
       rw [← hDe, p1, if_pos h100, p2]
      have HV : Hid ((valueM 4 l 0).1 = ((0, strOf T.1) : Vl)) := Lib.hid (by rw [hv, hTe]; rfl)
      have HN : Hid ((valueM 4 l 0).2 = (X, T.2.2)) := Lib.hid (by rw [hv, hTe, hX]; exact Prod.ext rfl q1)
      have HQ : Hid (Rel b X T.2.1 T.2.2) := Lib.hid (by rw [hTe]; exact q2)
      have HT := Lib.hid hTk
      have HF := Lib.hid hF
      clear hv hTk hT hTe hT0 q1 q2 hX hF p1 p2 p3 hDe
      go_wp2_with fail
      refine (HG.out _ HRA.out).mono ?_
      rintro e y1 ⟨rfl, hr1, hb1⟩
      go_wp2_with fail
      refine (rfail_any g (lo := w.heap.size) b G.2.1 G.2.2 5 _ hr1).mono ?_
      rw [← HF.out]
      rintro e y2 ⟨rfl, hr2, hb2⟩
      have hb2 := hb1.trans hb2
      clear hr1 hb1
      go_wp2_with fail
      refine (HT.out _ hr2).mono ?_
      rintro e y3 ⟨aoT, capT, rfl, hcT, hnT, hr3, hb3⟩
      have hb3 := hb2.trans hb3
      have hblk := res_cells hglt hb3
      obtain ⟨c0, c1, f0, f1⟩ := two_cells hblk
      have cv := run_string_of (P := Tryz.prog) (w := y3) (cap := capT) 24 5 9 Tryz.underlying24 Tryz.underlying5 Tryz.underlying9 rfl hcT hnT
      have Hr3 := Lib.hid hr3
      have Hb3 := Lib.hid hb3
      clear hr3 hb3 hb2 hr2 hcT hnT
      go_upto_region 20 with fail
      obtain ⟨W, hW⟩ : ∃ W, W = y3.setCell ⟨wr.heap.size, 1, none⟩ (.string (strOf T.1)) := ⟨_, rfl⟩
      have hset : Below wr.heap.size y3 W := by rw [hW]; exact (Below.refl _ _).setCell (by exact Nat.le_refl _) _
      have hbut : But g wr W := ((But.of (balloc (Below.refl _ _) _)).trans Hb3.out).tail hset
      have hb2 := two_set1 hblk (.string (strOf T.1))
      rw [← hW] at hb2
      obtain ⟨d0, d1, -, -⟩ := two_cells hb2
      have hownW := own_but Hown.out hbut (Nat.lt_succ_self g)
      have hrW := Hr3.out.below hset hglt
      have hWw := hbut.below Hwr.out hg Hwr.out.size
      have hWs : w.heap.size ≤ W.heap.size := hWw.size
      have hgW : g < W.heap.size := Nat.lt_of_lt_of_le hglt hbut.size
      rw [← hW]
      have HownW := Lib.hid hownW; have HrW := Lib.hid hrW; have HWw := Lib.hid hWw
      clear hW hset hbut hownW hrW hWw hb2 hblk c0 c1 f0 f1 k0 k1 k2
      go_wp2_with (at_builtin; refine wpList_append_all sl_v rfl (.tmp 77) (.tmp 79) rfl rfl (HownW.out.alloc _) rfl (cells_one_v W 81 ((0 : Int), strOf T.1)) (fun e => by cases e) (fun _ _ => vlc_one _ _) ?c1 ?c2 ?c3 ?_)
      case c1 => unfold maxLen; omega
      case c2 => omega
      case c3 => simp; omega
      intro v' y' hown' hgrow
      have hfin : vcs (decSt 4 j b 0).1 ++ [vlc [((0 : Int), strOf T.1)] 0, vlc [((0 : Int), strOf T.1)] 1] = vcs (decSt 4 (j + 1) b 0).1 := by
       refine (vcs_snoc _ _).trans ?_
       rw [pdec_next 4 b j l 0 hst.out]
       rw [HV.out]
      rw [hfin] at hown'
      have hy := (balloc HWw.out _).grown hgrow (balloc HWw.out _).size (fun j hj => Nat.le_trans (by omega) (HownW.out.lt j hj).1)
      have hry := HrW.out.below ((Below.refl (g + 1) W).alloc (by omega) _ |>.grown hgrow (by simp; omega) (fun j hj => (HownW.out.lt j hj).1)) (Nat.lt_succ_self g)
      have hnx : Hid ((decSt 4 (j + 1) b 0).2 = (X, T.2.2)) := Lib.hid (by rw [pdec_next 4 b j l 0 hst.out]; exact HN.out)
      have Hown' := Lib.hid hown'; have Hy := Lib.hid hy; have Hry := Lib.hid hry
      clear hown' hy hry hgrow hfin
      go_wp2
      go_roundw
      case rel => exact ⟨j + 1, _, _, _, by omega, by go_num, Hown'.out, Hry.out, hnx, HQ, Hy.out⟩
      case measure => simp [intOf]; omega
    · obtain ⟨q1, q2, q3⟩ := rel_take p3 (G.1 : Nat)
      have hTk := fun w' h => rrtake_any g (lo := w.heap.size) b G.2.1 G.2.2 (G.1 : Nat) w' h (by rw [Hl.out]; exact hL) p3.1
      obtain ⟨T, hT⟩ : ∃ T, T = rrTake b G.2.1 G.2.2 (G.1 : Nat) := ⟨_, rfl⟩
      obtain ⟨X, hX⟩ : ∃ X, X = (rdTake D.2.1 G.2.2 (G.1 : Nat)).2.1 := ⟨_, rfl⟩
      rw [← hT] at hTk q1 q2 q3
      rw [← hX] at q3
      have hw64 : wrap64 (G.1 : Nat) = (G.1 : Nat) := by unfold wrap64; omega
      have hv : valueM 4 l 0 = ((0, strOf T.1), (X, T.2.2)) := by
       unfold valueM; simp only [show ¬ ((4 : Nat) = 2) by decide, show ¬ ((4 : Nat) = 3) by decide, if_false]
       rw [← hDe, p1, if_neg h100, p2, q1, hX, ← q2]
      have HV : Hid ((valueM 4 l 0).1 = ((0, strOf T.1) : Vl)) := Lib.hid (by rw [hv])
      have HN : Hid ((valueM 4 l 0).2 = (X, T.2.2)) := Lib.hid (by rw [hv])
      have HQ := Lib.hid q3
      have HT := Lib.hid hTk
      clear hv hTk hT q1 q2 q3 hX p1 p2 p3 hDe
      go_wp2_with fail
      refine (HG.out _ HRA.out).mono ?_
      rintro e y1 ⟨rfl, hr2, hb2⟩
      go_wp2_with fail
      refine (HT.out _ hr2).mono ?_
      rintro e y3 ⟨aoT, capT, rfl, hcT, hnT, hr3, hb3⟩
      have hb3 := hb2.trans hb3
      have hblk := res_cells hglt hb3
      obtain ⟨c0, c1, f0, f1⟩ := two_cells hblk
      have cv := run_string_of (P := Tryz.prog) (w := y3) (cap := capT) 24 5 9 Tryz.underlying24 Tryz.underlying5 Tryz.underlying9 rfl hcT hnT
      have Hr3 := Lib.hid hr3
      have Hb3 := Lib.hid hb3
      clear hr3 hb3 hb2 hr2 hcT hnT
      go_upto_region 20 with fail
      obtain ⟨W, hW⟩ : ∃ W, W = y3.setCell ⟨wr.heap.size, 1, none⟩ (.string (strOf T.1)) := ⟨_, rfl⟩
      have hset : Below wr.heap.size y3 W := by rw [hW]; exact (Below.refl _ _).setCell (by exact Nat.le_refl _) _
      have hbut : But g wr W := ((But.of (balloc (Below.refl _ _) _)).trans Hb3.out).tail hset
      have hb2 := two_set1 hblk (.string (strOf T.1))
      rw [← hW] at hb2
      obtain ⟨d0, d1, -, -⟩ := two_cells hb2
      have hownW := own_but Hown.out hbut (Nat.lt_succ_self g)
      have hrW := Hr3.out.below hset hglt
      have hWw := hbut.below Hwr.out hg Hwr.out.size
      have hWs : w.heap.size ≤ W.heap.size := hWw.size
      have hgW : g < W.heap.size := Nat.lt_of_lt_of_le hglt hbut.size
      rw [← hW]
      have HownW := Lib.hid hownW; have HrW := Lib.hid hrW; have HWw := Lib.hid hWw
      clear hW hset hbut hownW hrW hWw hb2 hblk c0 c1 f0 f1 k0 k1 k2
      go_wp2_with (at_builtin; refine wpList_append_all sl_v rfl (.tmp 77) (.tmp 79) rfl rfl (HownW.out.alloc _) rfl (cells_one_v W 81 ((0 : Int), strOf T.1)) (fun e => by cases e) (fun _ _ => vlc_one _ _) ?c1 ?c2 ?c3 ?_)
      case c1 => unfold maxLen; omega
      case c2 => omega
      case c3 => simp; omega
      intro v' y' hown' hgrow
      have hfin : vcs (decSt 4 j b 0).1 ++ [vlc [((0 : Int), strOf T.1)] 0, vlc [((0 : Int), strOf T.1)] 1] = vcs (decSt 4 (j + 1) b 0).1 := by
       refine (vcs_snoc _ _).trans ?_
       rw [pdec_next 4 b j l 0 hst.out]
       rw [HV.out]
      rw [hfin] at hown'
      have hy := (balloc HWw.out _).grown hgrow (balloc HWw.out _).size (fun j hj => Nat.le_trans (by omega) (HownW.out.lt j hj).1)
      have hry := HrW.out.below ((Below.refl (g + 1) W).alloc (by omega) _ |>.grown hgrow (by simp; omega) (fun j hj => (HownW.out.lt j hj).1)) (Nat.lt_succ_self g)
      have hnx : Hid ((decSt 4 (j + 1) b 0).2 = (X, T.2.2)) := Lib.hid (by rw [pdec_next 4 b j l 0 hst.out]; exact HN.out)
      have Hown' := Lib.hid hown'; have Hy := Lib.hid hy; have Hry := Lib.hid hry
      clear hown' hy hry hgrow hfin
      go_wp2
      go_roundw
      case rel => exact ⟨j + 1, _, _, _, by omega, by go_num, Hown'.out, Hry.out, hnx, HQ, Hy.out⟩
      case measure => simp [intOf]; omega
  · have hxx : j = n ∨ err ≠ 0 := by omega
    have hD := decM_exit 4 b j n l err hst.out hj hxx
    have hre := rel_end hq.out
    obtain ⟨aoV, capV, rfl, hlen, -, -, -, -⟩ := own_v hown
    obtain ⟨E, hE⟩ : ∃ E, E = rdEnd l err := ⟨_, rfl⟩
    rw [← hE] at hD hre
    have HD := Lib.hid hD; have Hre := Lib.hid hre; have Hlen := Lib.hid hlen
    have Hown := Lib.hid hown; have Hwr := Lib.hid hwr
    have hgw : w.heap.size ≤ g + 1 := by omega
    clear hD hre hlen hown hwr hE
    have key : ∀ m, if E = 0 then GaveDec w (decM 4 b n) (.returned (.tuple #[.slice aoV j capV, .int .i64 0])) (wr.drewN m) else GaveDec w (decM 4 b n) (.returned (.tuple #[.slice none 0 0, .int .i64 (E : Nat)])) (wr.drewN m) := by
     intro m
     rw [HD.out]
     split
     · exact ⟨_, rfl, by rw [Hlen.out]; exact own_base (own_drewN Hown.out m) hgw, below_drewN Hwr.out m⟩
     · exact ⟨_, rfl, World.ownsRow_nil _ _ _ _, below_drewN Hwr.out m⟩
    have Key := Lib.hid key; clear key
    by_cases hjn : j < n
    · have he0 : err ≠ 0 := by omega
      have b1 : ((err : Int) == 0) = false := by rw [beq_eq_false_iff_ne]; omega
      have e1 : (j : Int) < (n : Int) := by omega
      go_wp2_with fail
      refine (rend_any g (lo := w.heap.size) b at_ err _ HR.out).mono ?_
      rw [Hre.out]
      rintro e x2 ⟨rfl, m, rfl⟩
      by_cases hE0 : E = 0
      · have kk := Key.out m
        rw [if_pos hE0] at kk
        have Kk := Lib.hid kk
        subst hE0
        clear kk
        go_wp2
        go_ret2
        exact Kk.out
      · have kk := Key.out m
        rw [if_neg hE0] at kk
        have Kk := Lib.hid kk
        have b2 : ((E : Int) != 0) = true := by rw [bne_iff_ne]; omega
        clear kk hE0
        go_wp2
        go_ret2
        exact Kk.out
    · obtain rfl : j = n := by omega
      go_wp2_with fail
      refine (rend_any g (lo := w.heap.size) b at_ err _ HR.out).mono ?_
      rw [Hre.out]
      rintro e x2 ⟨rfl, m, rfl⟩
      by_cases hE0 : E = 0
      · have kk := Key.out m
        rw [if_pos hE0] at kk
        have Kk := Lib.hid kk
        subst hE0
        clear kk
        go_wp2
        go_ret2
        exact Kk.out
      · have kk := Key.out m
        rw [if_neg hE0] at kk
        have Kk := Lib.hid kk
        have b2 : ((E : Int) != 0) = true := by rw [bne_iff_ne]; omega
        clear kk hE0
        go_wp2
        go_ret2
        exact Kk.out
set_option maxRecDepth 100000 in
set_option maxHeartbeats 1000000 in
theorem rdecode_arg (kind : Int) (ao : Option Addr) (L cap : Nat) (b : List Nat) (n : Int) (w : World) (h : kind < 1 ∨ 4 < kind ∨ n < 0 ∨ 4000 < n) :
 Calls Tryz.prog 33 #[.int .i64 kind, .slice ao L cap, .int .i64 n] w (GaveDec w ([], 1)) := by
 have key : GaveDec w ([], 1) (.returned (.tuple #[.slice none 0 0, .int .i64 1])) w := ⟨_, rfl, World.ownsRow_nil _ _ _ _, Below.refl _ _⟩
 have Key := Lib.hid key; clear key
 by_cases h1 : kind < 1
 · go_enter Tryz.func33, Tryz.ntmps33
   go_wp2
   go_ret2
   exact Key.out
 by_cases h2 : 4 < kind
 · have d1 : decide (kind < 1) = false := decide_eq_false h1
   have d2 : decide (4 < kind) = true := decide_eq_true h2
   clear h
   go_enter Tryz.func33, Tryz.ntmps33
   go_wp2
   go_ret2
   exact Key.out
 by_cases h3 : n < 0
 · have d1 : decide (kind < 1) = false := decide_eq_false h1
   have d2 : decide (4 < kind) = false := decide_eq_false h2
   have d3 : decide (n < 0) = true := decide_eq_true h3
   clear h
   go_enter Tryz.func33, Tryz.ntmps33
   go_wp2
   go_ret2
   exact Key.out
 · have h4 : 4000 < n := by omega
   have d1 : decide (kind < 1) = false := decide_eq_false h1
   have d2 : decide (4 < kind) = false := decide_eq_false h2
   have d3 : decide (n < 0) = false := decide_eq_false h3
   clear h
   go_enter Tryz.func33, Tryz.ntmps33
   go_wp2
   go_ret2
   exact Key.out
set_option maxRecDepth 100000 in
set_option maxHeartbeats 1000000 in
theorem rdecode_1 (ao : Option Addr) (L cap n : Nat) (b : List Nat) (w : World) (hl : b.length = L) (h256 : ∀ x ∈ b, x < 256) (hL : L ≤ 140737488355328) (hc : CellsAt w w.heap.size ao L (u8c b)) (hn : n ≤ 4000) :
 Calls Tryz.prog 33 #[.int .i64 1, .slice ao L cap, .int .i64 n] w (GaveDec w (decB b n)) := by
 have hB := rbools_any ao L cap n b w hl h256 hL hc hn
 obtain ⟨D, hD⟩ : ∃ D, D = decB b n := ⟨_, rfl⟩
 rw [← hD] at hB ⊢
 have HB := Lib.hid hB; clear hB hD hl h256 hc
 go_enter Tryz.func33, Tryz.ntmps33
 go_wp2_with fail
 refine HB.out.mono ?_
 rintro e x ⟨v, rfl, ho, hb⟩
 go_wp2
 go_ret2
 exact ⟨_, rfl, ho, hb⟩
theorem rdecode_any (kind : Int) (ao : Option Addr) (L cap : Nat) (b : List Nat) (n : Int) (w : World) (hl : b.length = L) (h256 : ∀ x ∈ b, x < 256) (hL : L ≤ 1000000) (hc : CellsAt w w.heap.size ao L (u8c b)) (hz : ao = none → L = 0) :
 Calls Tryz.prog 33 #[.int .i64 kind, .slice ao L cap, .int .i64 n] w (GaveDec w (decodeM kind b n)) := by
 unfold decodeM
 by_cases h : kind < 1 ∨ 4 < kind ∨ n < 0 ∨ 4000 < n
 · rw [if_pos h]; exact rdecode_arg kind ao L cap b n w h
 · rw [if_neg h]
   obtain ⟨m, rfl⟩ : ∃ m : Nat, n = m := ⟨n.toNat, by omega⟩
   rw [Int.toNat_natCast]
   have hk : kind = 1 ∨ kind = 2 ∨ kind = 3 ∨ kind = 4 := by omega
   have hm : m ≤ 4000 := by omega
   rcases hk with rfl | rfl | rfl | rfl
   · rw [if_pos rfl]; exact rdecode_1 ao L cap m b w hl h256 (by omega) hc hm
   · rw [if_neg (by decide)]; exact rdecode_2 ao L cap m b w hl h256 hL hc hz hm
   · rw [if_neg (by decide)]; exact rdecode_3 ao L cap m b w hl h256 hL hc hz hm
   · rw [if_neg (by decide)]; exact rdecode_4 ao L cap m b w hl h256 hL hc hz hm
end Go.Proofs.YtebmbkbnngeabaaGreat
