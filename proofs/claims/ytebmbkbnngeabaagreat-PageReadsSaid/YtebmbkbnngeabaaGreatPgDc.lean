/- Chapter 18: the walk over page.Decode. -/
import Derived.Test.YtebmbkbnngeabaaGreatPgDb
set_option linter.unusedSimpArgs false
namespace Go.Proofs.YtebmbkbnngeabaaGreat
open Go.RowKit
set_option linter.unusedVariables false
set_option maxHeartbeats 8000000 in
set_option maxRecDepth 100000 in
theorem pdecode_any (lf : Lf) (p : Pg) (ao : Option Addr) (L cap : Nat) (b : List Nat) (aoW : Option Addr) (m capW : Nat) (ws : List Vl) (w : World) (hlr : lf.r ≤ 1000) (hld : lf.d ≤ 1000) (hlk : lf.kind ≤ 4) (hp : OkPg p)
 (hl : b.length = L) (hc : CellsAt w w.heap.size ao L (u8c b)) (hz : ao = none → L = 0) (hcap : L ≤ cap) (h256 : ∀ x ∈ b, x < 256) (hb : L ≤ 1000000) (hm : ws.length = m) (hm2 : m ≤ 1000000) (hw : CellsAt w w.heap.size aoW (m * 2) (vlc ws)) :
 Calls Tryz.prog 9 #[lfA lf, pgV p, .slice ao L cap, .slice aoW m capW] w (GaveCol w (pgDec lf.r lf.d lf.kind p b ws)) := by
 obtain ⟨w4, hw4⟩ : ∃ x, x = (((w.alloc (.cells #[.int .i64 (lf.field : Nat), .int .i64 (lf.r : Nat), .int .i64 (lf.d : Nat), .int .i64 (lf.kind : Nat)] 30)).alloc (.cells #[.int .i64 p.rows, .int .i64 p.cells, .int .i64 p.enc, .int .i64 p.rl, .int .i64 p.dl, .int .i64 p.vl, .int .u32 (p.crc : Nat)] 27)).alloc (.cells #[.slice none 0 0, .slice none 0 0, .slice none 0 0] 33)).alloc (.cells #[.slice none 0 0, .slice none 0 0, .slice none 0 0] 33) := ⟨_, rfl⟩
 obtain ⟨g, hg⟩ : ∃ g, g = w.heap.size := ⟨_, rfl⟩
 have hD : PD lf p g (g + 3) (.slice none 0 0) (.slice none 0 0) (.slice none 0 0) w w4 := by
  subst hw4
  refine ⟨?_, ?_, ?_, ?_, balloc (balloc (balloc (balloc (Below.refl _ _) _) _) _) _, hg.symm, Nat.le_refl _⟩
  · rw [heap_alloc_old _ _ (by simp; omega), heap_alloc_old _ _ (by simp; omega), heap_alloc_old _ _ (by simp; omega), hg]; exact heap_alloc_new w _
  · rw [heap_alloc_old _ _ (by simp; omega), heap_alloc_old _ _ (by simp; omega), hg]
    have h := heap_alloc_new (w.alloc (.cells #[.int .i64 (lf.field : Nat), .int .i64 (lf.r : Nat), .int .i64 (lf.d : Nat), .int .i64 (lf.kind : Nat)] 30)) (.cells #[.int .i64 p.rows, .int .i64 p.cells, .int .i64 p.enc, .int .i64 p.rl, .int .i64 p.dl, .int .i64 p.vl, .int .u32 (p.crc : Nat)] 27)
    simpa using h
  · rw [heap_alloc_old _ _ (by simp; omega), hg]
    have h := heap_alloc_new ((w.alloc (.cells #[.int .i64 (lf.field : Nat), .int .i64 (lf.r : Nat), .int .i64 (lf.d : Nat), .int .i64 (lf.kind : Nat)] 30)).alloc (.cells #[.int .i64 p.rows, .int .i64 p.cells, .int .i64 p.enc, .int .i64 p.rl, .int .i64 p.dl, .int .i64 p.vl, .int .u32 (p.crc : Nat)] 27)) (.cells #[.slice none 0 0, .slice none 0 0, .slice none 0 0] 33)
    simpa using h
  · rw [hg]
    have h := heap_alloc_new (((w.alloc (.cells #[.int .i64 (lf.field : Nat), .int .i64 (lf.r : Nat), .int .i64 (lf.d : Nat), .int .i64 (lf.kind : Nat)] 30)).alloc (.cells #[.int .i64 p.rows, .int .i64 p.cells, .int .i64 p.enc, .int .i64 p.rl, .int .i64 p.dl, .int .i64 p.vl, .int .u32 (p.crc : Nat)] 27)).alloc (.cells #[.slice none 0 0, .slice none 0 0, .slice none 0 0] 33)) (.cells #[.slice none 0 0, .slice none 0 0, .slice none 0 0] 33)
    simpa using h
 have Hl := Lib.hid hl; have Hc := Lib.hid hc; have Hz := Lib.hid hz; have H256 := Lib.hid h256; have Hm := Lib.hid hm; have Hw := Lib.hid hw; have HD := Lib.hid hD; have Hp := Lib.hid hp; have Hg := Lib.hid hg
 have HF := Lib.hid (pfits_any p L w4 hp hb)
 obtain ⟨lc0, lc1, lc2, lc3⟩ := four_lf hD.l
 obtain ⟨c0, c1, c2, c3, c4, c5, c6⟩ := hD.page
 clear hl hc hz h256 hm hw hD hp
 unfold lfA pgV
 go_enter Tryz.func9, Tryz.ntmps9
 go_wp2
 refine wp_scope_fwd 0 rfl ?_
 go_upto_region 2 with fail
 rw [← hw4, ← hg, show g + 1 + 1 + 1 = g + 3 from rfl, show g + 1 + 1 = g + 2 from rfl]
 have H4 := Lib.hid hw4
 clear hw4 hg
 have HBad : Hid (∀ (k : Nat) (x : World), PD lf p g (g + 3) (.slice none 0 0) (.slice none 0 0) (.slice none 0 0) w x → True) := Lib.hid (fun _ _ _ => trivial)
 by_cases hok : pgOk p L
 · rw [decide_eq_true hok] at HF
   go_wp2_with fail
   refine HF.out.mono ?_
   rintro e x ⟨rfl, hb4⟩
   have HDx := Lib.hid (HD.out.keep hb4)
   have HBx := Lib.hid ((HD.out.b).trans (hb4.mono HD.out.b.size))
   obtain ⟨c0, c1, c2, c3, c4, c5, c6⟩ := HDx.out.page
   clear hb4 HD HF
   go_upto_region 5 with fail
   go_cut [25] (fun v wy => v = .bool (decide (¬ csum b = p.crc)) ∧ Hid (PD lf p g (g + 3) (.slice none 0 0) (.slice none 0 0) (.slice none 0 0) w wy))
   case first =>
    have p6 : ∀ w', Grows x.drew w' → w'.cell? ⟨g + 1, 6, none⟩ = some (.int .u32 (p.crc : Nat)) := fun w' hg => Grows.cell (Grows.toDrew hg) c6
    obtain ⟨cs, hcs⟩ : ∃ cs, cs = csum b := ⟨_, rfl⟩
    have Hcs := Lib.hid hcs
    have hne : Hid (((cs : Int) != (p.crc : Int)) = decide (¬ csum b = p.crc)) := Lib.hid (by
     rw [← hcs]
     by_cases h : cs = p.crc
     · rw [h]; simp
     · simp only [h, not_false_eq_true, decide_true]; simp [bne_iff_ne]; omega)
    have hcx := Hc.out.at HBx.out
    clear hcs
    refine wp_region_linR Grows ⟨Grows.refl, Grows.trans⟩ (.take 0 (.take 3 (.take 4 (.one 1 (.one 2 (.take 5 (.done))))))) [] (by kernel_rfl) (by kernel_rfl) (fun d _ _ _ _ h => by cases d <;> exact h) ?_
    iterate 3 (first
     | (refine wpLinR_take (v := ?_) rfl rfl (fun w' hw' => ?_) (fun K hK => ?_); rotate_left; (go_simp; rfl); (go_simp; refine hK _ ?_; clear hK K)))
    clear p6
    refine wpLinR_one rfl (fun K hK => ?_)
    go_simp
    refine hK _ _ (.inr ((Grows.refl _).alloc _)) ?_; clear hK K
    have hP := one_part (E := 24) (c := cap) rfl Hl.out (by omega) hcx
    refine wpLinR_one rfl (fun K hK => ?_)
    go_simp
    refine (sum_one _ b (x.alloc (.cells #[.slice ao L cap] 24)).drew H256.out hP 1).mono ?_
    rintro e y ⟨rfl, rfl⟩
    rw [← Hcs.out]
    refine hK _ _ (.inr (Grows.refl _)) ?_; clear hK K hP
    refine wpLinR_take (v := ?_) rfl rfl (fun w' hw' => ?_) (fun K hK => ?_)
    rotate_left
    · go_simp; rfl
    go_simp; refine hK _ ?_; clear hK K
    refine wpLinR_nil ?_
    go_wp2
    go_meet
    exact ⟨by rw [hne.out], Lib.hid (HDx.out.keep (Below.drew (balloc (Below.refl _ _) _)))⟩
   case rest =>
   clear HDx HBx c0 c1 c2 c3 c4 c5 c6
   obtain ⟨rfl, HD⟩ := hcut
   obtain ⟨x1, hxx⟩ : ∃ z, z = wc := ⟨_, rfl⟩
   subst hxx
   by_cases hcrc : csum b = p.crc
   · rw [decide_eq_false (show ¬ ¬ csum b = p.crc from fun h => h hcrc)]
     obtain ⟨hr1, hr2, hr3, hr4, he1, he2, q1, q2, q3, q4, q5⟩ := hok
     obtain ⟨rl, hrl⟩ : ∃ rl : Nat, p.rl = rl := ⟨p.rl.toNat, by omega⟩
     obtain ⟨dl, hdl⟩ : ∃ dl : Nat, p.dl = dl := ⟨p.dl.toNat, by omega⟩
     obtain ⟨cn, hcn⟩ : ∃ cn : Nat, p.cells = cn := ⟨p.cells.toNat, by omega⟩
     have hrd : rl + dl ≤ L := by omega
     have hcn1 : 1 ≤ cn := by omega
     have hcn4 : cn ≤ 4000 := by omega
     have HR : Hid (pgDec lf.r lf.d lf.kind p b ws = pgD1 lf.r lf.d lf.kind p.rows p.enc cn rl dl b ws) := Lib.hid (by
      unfold pgDec
      rw [Hl.out, if_pos ⟨hr1, hr2, hr3, hr4, he1, he2, q1, q2, q3, q4, q5⟩, if_pos hcrc, hcn, hrl, hdl, Int.toNat_natCast, Int.toNat_natCast, Int.toNat_natCast])
     have Hrl := Lib.hid hrl; have Hdl := Lib.hid hdl; have Hcn := Lib.hid hcn
     clear hr1 hr2 hr3 hr4 he1 he2 q1 q2 q3 q4 q5 hcrc hrl hdl hcn
     obtain ⟨r1, hr1⟩ : ∃ r1, r1 = levDec (b.take rl) cn (bitLen lf.r) := ⟨_, rfl⟩
     have hR1 : pgD1 lf.r lf.d lf.kind p.rows p.enc cn rl dl b ws = if r1.2 = 0 then pgD2 lf.r lf.d lf.kind p.rows p.enc cn rl dl b ws r1.1 else pgBad r1.2 := by unfold pgD1; rw [← hr1]
     have HR1 := Lib.hid hR1; have Hr1 := Lib.hid hr1
     clear hR1 hr1
     go_upto_region 6 with fail
     go_cut [12] (fun ev wy => ∃ (a0 : Option Addr) (n0 k0 : Nat), ev = .int .i64 (r1.2 : Nat) ∧ Hid (r1.1.length = n0) ∧ Hid (wy.ownsRow (g + 4) 3 1 (.slice a0 n0 k0) n0 (natv r1.1)) ∧ Hid (PD lf p g (g + 3) (.slice a0 n0 k0) (.slice none 0 0) (.slice none 0 0) w wy))
     case first =>
      obtain ⟨l1, l2, l3⟩ := HD.out.leaf
      obtain ⟨c0, c1, c2, c3, c4, c5, c6⟩ := HD.out.page
      rw [Hcn.out] at c1
      rw [Hrl.out] at c3
      have p1 : ∀ w', But (g + 3) x1.drew w' → w'.cell? ⟨g + 1, 1, none⟩ = some (.int .i64 (cn : Nat)) := fun w' hg => But.cellNe hg (by show g + 1 ≠ g + 3; omega) c1
      have p3 : ∀ w', But (g + 3) x1.drew w' → w'.cell? ⟨g + 1, 3, none⟩ = some (.int .i64 (rl : Nat)) := fun w' hg => But.cellNe hg (by show g + 1 ≠ g + 3; omega) c3
      have pl : ∀ w', But (g + 3) x1.drew w' → w'.cell? ⟨g, 1, none⟩ = some (.int .i64 (lf.r : Nat)) := fun w' hg => But.cellNe hg (by show g ≠ g + 3; omega) l1
      have e1 : (0 : Int) ≤ (rl : Int) := by omega
      have e2 : (rl : Int) ≤ (cap : Int) := by omega
      have hcx := (Hc.out.at HD.out.b)
      have hct : CellsAt x1.drew x1.drew.heap.size ao rl (u8c (b.take rl)) := fun i hi => by
       obtain ⟨b', o', he, hbl, hcc⟩ := hcx i (by omega)
       exact ⟨b', o', he, hbl, by rw [u8c_take _ _ _ hi]; exact hcc⟩
      have HLv := Lib.hid (ldec_any ao rl cap (cn : Nat) (bitLen lf.r : Nat) (b.take rl) x1.drew (by rw [List.length_take, Hl.out]; omega) hct (fun h => by have := Hz.out h; omega) (by omega) (fun y hy => H256.out y (List.mem_of_mem_take hy)) (by omega))
      clear hcx hct c0 c1 c2 c3 c4 c5 c6 l1 l2 l3
      refine wp_region_linR (But (g + 3)) (But.pre (g + 3)) (.take 0 (.take 1 (.take 2 (.take 3 (.take 4 (.take 5 (.take 6 (.take 7 (.take 8 (.one 9 (.take 10 (.take 11 (.take 12 (.take 13 (.one 14 (.take 15 (.done))))))))))))))))) [] (by kernel_rfl) (by kernel_rfl) (fun d _ _ _ _ h => by cases d <;> exact h) ?_
      iterate 8 (first
       | (refine wpLinR_take (v := ?_) rfl rfl (fun w' hw' => ?_) (fun K hK => ?_); rotate_left; (go_simp; rfl); (go_simp; refine hK _ ?_; clear hK K)))
      refine wpLinR_take (v := .int .i64 (bitLen lf.r : Nat)) rfl rfl (fun w' hw' => ?_) (fun K hK => ?_)
      · go_simp
        refine (pwidth_any lf.r _ (by omega)).mono ?_
        rintro e x4 ⟨rfl, rfl⟩
        exact ⟨rfl, rfl⟩
      go_simp; refine hK _ ?_; clear hK K p1 p3 pl
      refine wpLinR_one rfl (fun K hK => ?_)
      go_simp
      rw [← Hr1.out] at HLv
      refine HLv.out.mono ?_
      rintro e y ⟨v0, rfl, ho, hby⟩
      obtain ⟨a0, k0, rfl, -, -, -, -⟩ := own_nat ho
      obtain ⟨n0, hn0⟩ : ∃ n0, n0 = r1.1.length := ⟨_, rfl⟩
      have Hn0 := Lib.hid hn0.symm
      rw [← hn0] at ho ⊢
      clear hn0
      have hDy := (HD.out.keep (Below.drew (Below.refl _ _))).keep hby
      have ho2 := own_base ho (show g + 4 ≤ x1.drew.heap.size from HD.out.lt)
      have HDy := Lib.hid (hDy.set 0 (.slice a0 n0 k0) (.slice a0 n0 k0) (.slice none 0 0) (.slice none 0 0) rfl)
      have HOy : Hid ((y.setCell ⟨g + 3, 0, none⟩ (.slice a0 n0 k0)).ownsRow (g + 4) 3 1 (.slice a0 n0 k0) n0 (natv r1.1)) := Lib.hid (ho2.kept (setCell_grown y (g + 3) 0 (.slice a0 n0 k0)) (by right; intro e; have := (ho2.lt _ e).1; omega))
      obtain ⟨d0, -, -, f0, -, -⟩ := hDy.col
      refine hK _ _ (.inr (But.of hby)) ?_; clear hK K ho ho2 hby hDy HLv
      iterate 4 (first
       | (refine wpLinR_take (v := ?_) rfl rfl (fun w' hw' => ?_) (fun K hK => ?_); rotate_left; (go_simp; rfl); (go_simp; refine hK _ ?_; clear hK K)))
      refine wpLinR_one rfl (fun K hK => ?_)
      go_simp
      refine hK _ _ (.inr ((But.refl _ _).setCell 0 _)) ?_; clear hK K
      refine wpLinR_take (v := ?_) rfl rfl (fun w' hw' => ?_) (fun K hK => ?_)
      rotate_left
      · go_simp; rfl
      go_simp; refine hK _ ?_; clear hK K
      refine wpLinR_nil ?_
      go_wp2
      go_meet
      exact ⟨a0, n0, k0, rfl, Hn0, HOy, HDy⟩
     case rest =>
     obtain ⟨a0, n0, k0, rfl, Hn0, HO0, HD1⟩ := hcut
     obtain ⟨x2, hxx⟩ : ∃ z, z = wc := ⟨_, rfl⟩
     subst hxx
     clear HD
     by_cases hz1 : r1.2 = 0
     · rw [hz1]
       have HR2 : Hid (pgDec lf.r lf.d lf.kind p b ws = pgD2 lf.r lf.d lf.kind p.rows p.enc cn rl dl b ws r1.1) := Lib.hid (by rw [HR.out, HR1.out, if_pos hz1])
       have Hlen1 : Hid (n0 = cn) := Lib.hid (by rw [← Hn0.out, Hr1.out]; exact levDec_ok _ _ _ (by rw [← Hr1.out]; exact hz1))
       clear HR HR1 hz1
       obtain ⟨r2, hr2⟩ : ∃ r2, r2 = levDec ((b.drop rl).take dl) cn (bitLen lf.d) := ⟨_, rfl⟩
       have hR3 : pgD2 lf.r lf.d lf.kind p.rows p.enc cn rl dl b ws r1.1 = if r2.2 = 0 then pgD3 lf.r lf.d lf.kind p.rows p.enc rl dl b ws r1.1 r2.1 else pgBad r2.2 := by unfold pgD2; rw [← hr2]
       have HR3 := Lib.hid hR3; have Hr2 := Lib.hid hr2
       clear hR3 hr2
       obtain ⟨ao1, hao1, hsl⟩ := slice_lh ao L cap rl dl (by omega)
       have Hao1 := Lib.hid hao1
       clear hao1
       go_upto_region 8 with fail
       go_cut [12] (fun ev wy => ∃ (a1 : Option Addr) (n1 k1 : Nat), ev = .int .i64 (r2.2 : Nat) ∧ Hid (r2.1.length = n1) ∧ Hid (wy.ownsRow (g + 4) 3 1 (.slice a0 n0 k0) n0 (natv r1.1)) ∧ Hid (wy.ownsRow (g + 4) 3 1 (.slice a1 n1 k1) n1 (natv r2.1)) ∧ Hid (PD lf p g (g + 3) (.slice a0 n0 k0) (.slice a1 n1 k1) (.slice none 0 0) w wy))
       case first =>
        obtain ⟨l1, l2, l3⟩ := HD1.out.leaf
        obtain ⟨c0, c1, c2, c3, c4, c5, c6⟩ := HD1.out.page
        rw [Hcn.out] at c1
        rw [Hrl.out] at c3
        rw [Hdl.out] at c4
        have p1 : ∀ w', But (g + 3) x2.drew w' → w'.cell? ⟨g + 1, 1, none⟩ = some (.int .i64 (cn : Nat)) := fun w' hg => But.cellNe hg (by show g + 1 ≠ g + 3; omega) c1
        have p3 : ∀ w', But (g + 3) x2.drew w' → w'.cell? ⟨g + 1, 3, none⟩ = some (.int .i64 (rl : Nat)) := fun w' hg => But.cellNe hg (by show g + 1 ≠ g + 3; omega) c3
        have p4 : ∀ w', But (g + 3) x2.drew w' → w'.cell? ⟨g + 1, 4, none⟩ = some (.int .i64 (dl : Nat)) := fun w' hg => But.cellNe hg (by show g + 1 ≠ g + 3; omega) c4
        have pl : ∀ w', But (g + 3) x2.drew w' → w'.cell? ⟨g, 2, none⟩ = some (.int .i64 (lf.d : Nat)) := fun w' hg => But.cellNe hg (by show g ≠ g + 3; omega) l2
        have hwr : IntKind.i64.wrap ((rl : Int) + (dl : Int)) = (rl : Int) + (dl : Int) := IntWalk.i64_in _ (by omega)
        have hcx := (Hc.out.at HD1.out.b)
        have hct : CellsAt x2.drew x2.drew.heap.size ao1 dl (u8c ((b.drop rl).take dl)) := by
         rcases Hao1.out with h | h
         · subst h; exact CellsAt.zero
         · rw [h]; exact drop_cells hcx (by omega)
        have HLv := Lib.hid (ldec_any ao1 dl (cap - rl) (cn : Nat) (bitLen lf.d : Nat) ((b.drop rl).take dl) x2.drew (by rw [List.length_take, List.length_drop, Hl.out]; omega) hct (fun h => by
         rcases Hao1.out with h2 | h2
         · exact h2
         · rw [h] at h2
           cases hao : ao with
           | none => have := Hz.out hao; omega
           | some a => rw [hao] at h2; cases h2) (by omega) (fun y hy => H256.out y (List.mem_of_mem_drop (List.mem_of_mem_take hy))) (by omega))
        clear hcx hct c0 c1 c2 c3 c4 c5 c6 l1 l2 l3
        refine wp_region_linR (But (g + 3)) (But.pre (g + 3)) (.take 0 (.take 1 (.take 2 (.take 3 (.take 4 (.take 5 (.take 6 (.take 7 (.take 8 (.take 9 (.take 10 (.take 11 (.take 12 (.take 13 (.one 14 (.take 15 (.take 16 (.take 17 (.take 18 (.one 19 (.take 20 (.done)))))))))))))))))))))) [] (by kernel_rfl) (by kernel_rfl) (fun d _ _ _ _ h => by cases d <;> exact h) ?_
        iterate 13 (first
         | (refine wpLinR_take (v := ?_) rfl rfl (fun w' hw' => ?_) (fun K hK => ?_); rotate_left; (go_simp; rfl); (go_simp; refine hK _ ?_; clear hK K)))
        refine wpLinR_take (v := .int .i64 (bitLen lf.d : Nat)) rfl rfl (fun w' hw' => ?_) (fun K hK => ?_)
        · go_simp
          refine (pwidth_any lf.d _ (by omega)).mono ?_
          rintro e x4 ⟨rfl, rfl⟩
          exact ⟨rfl, rfl⟩
        go_simp; refine hK _ ?_; clear hK K p1 p3 p4 pl
        refine wpLinR_one rfl (fun K hK => ?_)
        go_simp
        rw [← Hr2.out] at HLv
        refine HLv.out.mono ?_
        rintro e y ⟨v0, rfl, ho, hby⟩
        obtain ⟨a1, k1, rfl, -, -, -, -⟩ := own_nat ho
        obtain ⟨n1, hn1⟩ : ∃ n1, n1 = r2.1.length := ⟨_, rfl⟩
        have Hn1 := Lib.hid hn1.symm
        rw [← hn1] at ho ⊢
        clear hn1
        have hDy := (HD1.out.keep (Below.drew (Below.refl _ _))).keep hby
        have ho2 := own_base ho (show g + 4 ≤ x2.drew.heap.size from HD1.out.lt)
        have ho0 := own_below (own_below HO0.out (Below.drew (Below.refl _ _))) hby
        have HDy := Lib.hid (hDy.set 1 (.slice a1 n1 k1) (.slice a0 n0 k0) (.slice a1 n1 k1) (.slice none 0 0) rfl)
        have HOy : Hid ((y.setCell ⟨g + 3, 1, none⟩ (.slice a1 n1 k1)).ownsRow (g + 4) 3 1 (.slice a1 n1 k1) n1 (natv r2.1)) := Lib.hid (ho2.kept (setCell_grown y (g + 3) 1 (.slice a1 n1 k1)) (by right; intro e; have := (ho2.lt _ e).1; omega))
        have HOz : Hid ((y.setCell ⟨g + 3, 1, none⟩ (.slice a1 n1 k1)).ownsRow (g + 4) 3 1 (.slice a0 n0 k0) n0 (natv r1.1)) := Lib.hid (ho0.kept (setCell_grown y (g + 3) 1 (.slice a1 n1 k1)) (by right; intro e; have := (ho0.lt _ e).1; omega))
        obtain ⟨-, d1, -, -, f1, -⟩ := hDy.col
        refine hK _ _ (.inr (But.of hby)) ?_; clear hK K ho ho2 ho0 hby hDy HLv
        iterate 4 (first
         | (refine wpLinR_take (v := ?_) rfl rfl (fun w' hw' => ?_) (fun K hK => ?_); rotate_left; (go_simp; rfl); (go_simp; refine hK _ ?_; clear hK K)))
        refine wpLinR_one rfl (fun K hK => ?_)
        go_simp
        refine hK _ _ (.inr ((But.refl _ _).setCell 1 _)) ?_; clear hK K
        refine wpLinR_take (v := ?_) rfl rfl (fun w' hw' => ?_) (fun K hK => ?_)
        rotate_left
        · go_simp; rfl
        go_simp; refine hK _ ?_; clear hK K
        refine wpLinR_nil ?_
        go_wp2
        go_meet
        exact ⟨a1, n1, k1, rfl, Hn1, HOz, HOy, HDy⟩
       case rest =>
       clear hsl HO0 HD1
       obtain ⟨a1, n1, k1, rfl, Hn1, HO0, HO1, HD⟩ := hcut
       obtain ⟨x3, hxx⟩ : ∃ z, z = wc := ⟨_, rfl⟩
       subst hxx
       by_cases hz2 : r2.2 = 0
       · rw [hz2]
         have HR4 : Hid (pgDec lf.r lf.d lf.kind p b ws = pgD3 lf.r lf.d lf.kind p.rows p.enc rl dl b ws r1.1 r2.1) := Lib.hid (by rw [HR2.out, HR3.out, if_pos hz2])
         have hnn : n1 = n0 := by rw [← Hn1.out, Hlen1.out, Hr2.out]; exact levDec_ok _ _ _ (by rw [← Hr2.out]; exact hz2)
         have hn0 : 1 ≤ n0 ∧ n0 ≤ 4000 := by rw [Hlen1.out]; exact ⟨hcn1, hcn4⟩
         subst hnn
         obtain ⟨hn1, hn4⟩ := hn0
         clear HR2 HR3 hz2 Hlen1
         obtain ⟨l0, l1, l2, l3⟩ := four_lf HD.out.l
         obtain ⟨c0, c1, c2, c3, c4, c5, c6⟩ := HD.out.page
         obtain ⟨d0, d1, d2, -⟩ := HD.out.col
         have hcr : CellsAt x3 x3.heap.size a0 n1 (i64c (ints r1.1)) := by
          obtain ⟨_, _, hv, -, -, hcc, -⟩ := own_nat HO0.out
          simp only [Value.slice.injEq, true_and] at hv
          rw [← nic_ints, hv.1]; exact hcc
         have hcd : CellsAt x3 x3.heap.size a1 n1 (i64c (ints r2.1)) := by
          obtain ⟨_, _, hv, -, -, hcc, -⟩ := own_nat HO1.out
          simp only [Value.slice.injEq, true_and] at hv
          rw [← nic_ints, hv.1]; exact hcc
         have HLV := Lib.hid (plevels_any lf p a0 n1 k0 (ints r1.1) a1 k1 (ints r2.1) x3 Hp.out (by omega) (by omega) (by rw [ints_length, Hn0.out]) (by rw [ints_length, Hn1.out]) hcr hcd)
         unfold lfA pgV at HLV
         have Hcd := Lib.hid hcd
         clear hcr hcd
         obtain ⟨lo, hlo⟩ : ∃ lo, lo = levsOk lf.r lf.d p.rows (ints r1.1) (ints r2.1) := ⟨_, rfl⟩
         rw [← hlo] at HLV
         have Hlo := Lib.hid hlo
         clear hlo
         go_wp2_with fail
         refine HLV.out.mono ?_
         rintro e y ⟨rfl, hby⟩
         have HDy := Lib.hid (HD.out.keep hby)
         have HO0y := Lib.hid (own_below HO0.out hby); have HO1y := Lib.hid (own_below HO1.out hby); have Hcdy := Lib.hid (Hcd.out.at hby)
         clear hby HLV HD HO0 HO1 Hcd l0 l1 l2 l3 c0 c1 c2 c3 c4 c5 c6 d0 d1 d2
         cases lo with
         | false =>
          have HRb : Hid (pgDec lf.r lf.d lf.kind p b ws = pgBad 10) := Lib.hid (by rw [HR4.out]; unfold pgD3; rw [← Hlo.out]; rfl)
          obtain ⟨d0, d1, d2, f0, f1, f2⟩ := HDy.out.res
          go_wp2
          go_step3
          refine ⟨rfl, ?_⟩
          go_wp2
          simp only [Exit.jump]
          obtain ⟨hfin, hbf⟩ := HDy.out.fin (.slice none 0 0) (.slice none 0 0) (.slice none 0 0)
          obtain ⟨q0, q1, q2, -⟩ := three_cellsT hfin
          exact bodyPost_ret (v := .tuple #[.agg #[.slice none 0 0, .slice none 0 0, .slice none 0 0], .int .i64 (10 : Nat)]) (by simp [results, Tryz.results9, go_sem, q0, q1, q2]) rfl (by rw [HRb.out]; exact GaveCol.bad 10 hbf)
         | true =>
          obtain ⟨rv, hrv⟩ : ∃ rv, rv = readV lf.kind p.enc (b.drop (rl + dl)) (cntI lf.d (ints r2.1)) ws := ⟨_, rfl⟩
          have HR5 : Hid (pgDec lf.r lf.d lf.kind p b ws = if rv.2 = 0 then ((r1.1, r2.1, rv.1), 0) else pgBad rv.2) := Lib.hid (by rw [HR4.out]; unfold pgD3; rw [← Hlo.out, if_pos rfl, ← hrv])
          have Hrv := Lib.hid hrv
          clear HR4 Hlo hrv
          obtain ⟨l0, l1, l2, l3⟩ := four_lf HDy.out.l
          obtain ⟨d0, d1, d2, -⟩ := HDy.out.col
          go_wp2
          go_loopw [11, 74] (fun nv iv wy => ∃ k c : Nat, k ≤ n1 ∧ iv = .int .i64 (k : Nat) ∧ nv = .int .i64 (c : Nat) ∧ c ≤ k ∧ Hid (c = cntI lf.d ((ints r2.1).take k)) ∧ wy = y) (fun _ iv _ => n1 - (intOf iv).toNat)
          case atStart => exact ⟨0, 0, Nat.zero_le _, rfl, rfl, Nat.le_refl _, Lib.hid rfl, rfl⟩
          case round =>
           obtain ⟨k, c, hk, rfl, rfl, hck, HK, hwy⟩ := hrel
           have hyw := hwy.symm
           subst hyw
           clear hwy
           by_cases hkn : k < n1
           · obtain ⟨bb, oo, rfl, -, x0⟩ := Hcdy.out k hkn
             obtain ⟨xv, hxv⟩ : ∃ xv, xv = (ints r2.1).getD k 0 := ⟨_, rfl⟩
             rw [i64c, ← hxv] at x0
             have e1 : (k : Int) < (n1 : Int) := by omega
             have e2 : (0 : Int) ≤ (k : Int) := by omega
             have t3 := cntI_take lf.d (ints r2.1) k (by rw [ints_length, Hn1.out]; exact hkn)
             rw [← hxv, ← HK.out] at t3
             have T3 := Lib.hid t3
             clear t3 hxv
             by_cases hxD : xv = (lf.d : Int)
             · have HK2 : Hid (c + 1 = cntI lf.d ((ints r2.1).take (k + 1))) := Lib.hid (by rw [T3.out, if_pos hxD])
               subst hxD
               go_wp2
               go_roundw
               case rel => exact ⟨k + 1, c + 1, by omega, by go_num, by go_num, by omega, HK2, trivial⟩
               case measure => simp [intOf]; omega
             · have HK2 : Hid (c = cntI lf.d ((ints r2.1).take (k + 1))) := Lib.hid (by rw [T3.out, if_neg hxD]; rfl)
               have f1 : (xv == (lf.d : Int)) = false := by rw [beq_eq_false_iff_ne]; exact hxD
               go_wp2
               go_roundw
               case rel => exact ⟨k + 1, c, by omega, by go_num, rfl, by omega, HK2, trivial⟩
               case measure => simp [intOf]; omega
           · obtain rfl : k = n1 := by omega
             have e0 : ¬ (k : Int) < (k : Int) := by omega
             have hcE : c = cntI lf.d (ints r2.1) := by
              have h1 := HK.out
              rwa [List.take_of_length_le (by rw [ints_length, Hn1.out]; exact Nat.le_refl _)] at h1
             rw [← hcE] at Hrv
             clear hcE HK
             obtain ⟨ao2, hao2, hsl2⟩ := slice_from ao L cap (rl + dl) hrd hcap
             have Hao2 := Lib.hid hao2
             rw [Int.natCast_add] at hsl2
             clear hao2
             go_upto_region 18 with fail
             go_cut [12] (fun ev wy => ∃ (a2 : Option Addr) (n2 k2 : Nat), ev = .int .i64 (rv.2 : Nat) ∧ Hid (rv.1.length = n2) ∧ Hid (wy.ownsRow (g + 4) 3 1 (.slice a0 k k0) k (natv r1.1)) ∧ Hid (wy.ownsRow (g + 4) 3 1 (.slice a1 k k1) k (natv r2.1)) ∧ Hid (wy.ownsRow (g + 4) 81 2 (.slice a2 n2 k2) n2 (vcs rv.1)) ∧ Hid (PD lf p g (g + 3) (.slice a0 k k0) (.slice a1 k k1) (.slice a2 n2 k2) w wy))
             case first =>
              obtain ⟨c0, c1, c2, c3, c4, c5, c6⟩ := HDy.out.page
              rw [Hrl.out] at c3
              rw [Hdl.out] at c4
              have p2 : ∀ w', But (g + 3) y.drew w' → w'.cell? ⟨g + 1, 2, none⟩ = some (.int .i64 p.enc) := fun w' hg => But.cellNe hg (by show g + 1 ≠ g + 3; omega) c2
              have p3 : ∀ w', But (g + 3) y.drew w' → w'.cell? ⟨g + 1, 3, none⟩ = some (.int .i64 (rl : Nat)) := fun w' hg => But.cellNe hg (by show g + 1 ≠ g + 3; omega) c3
              have p4 : ∀ w', But (g + 3) y.drew w' → w'.cell? ⟨g + 1, 4, none⟩ = some (.int .i64 (dl : Nat)) := fun w' hg => But.cellNe hg (by show g + 1 ≠ g + 3; omega) c4
              have pl : ∀ w', But (g + 3) y.drew w' → w'.cell? ⟨g, 3, none⟩ = some (.int .i64 (lf.kind : Nat)) := fun w' hg => But.cellNe hg (by show g ≠ g + 3; omega) l3
              have hwr : IntKind.i64.wrap ((rl : Int) + (dl : Int)) = (rl : Int) + (dl : Int) := IntWalk.i64_in _ (by omega)
              have hcx := (Hc.out.at HDy.out.b)
              have hct : CellsAt y.drew y.drew.heap.size ao2 (L - (rl + dl)) (u8c (b.drop (rl + dl))) := by
               rcases Hao2.out with h | h
               · rw [h]; exact CellsAt.zero
               · have h2 := drop_cells (m := L - (rl + dl)) hcx (p := rl + dl) (by omega)
                 rw [List.take_of_length_le (by rw [List.length_drop, Hl.out]; exact Nat.le_refl _)] at h2
                 rw [h]; exact h2
              have HRd := Lib.hid (pread_any lf.kind p.enc ao2 (L - (rl + dl)) (cap - (rl + dl)) (b.drop (rl + dl)) c aoW m capW ws y.drew hlk (by rw [List.length_drop, Hl.out]) hct (fun h => by
               rcases Hao2.out with h2 | h2
               · exact h2
               · rw [h] at h2
                 cases hao : ao with
                 | none => have := Hz.out hao; omega
                 | some a => rw [hao] at h2; cases h2) (by omega) (fun y hy => H256.out y (List.mem_of_mem_drop hy)) (by omega) Hm.out hm2 (Hw.out.at (Below.drew HDy.out.b)))
              clear hcx hct c0 c1 c2 c3 c4 c5 c6 l0 l1 l2 l3 d0 d1 d2
              refine wp_region_linR (But (g + 3)) (But.pre (g + 3)) (.take 0 (.take 1 (.take 2 (.take 3 (.take 4 (.take 5 (.take 6 (.take 7 (.take 8 (.take 9 (.take 10 (.take 11 (.take 12 (.one 13 (.take 14 (.take 15 (.take 16 (.take 17 (.one 18 (.take 19 (.done))))))))))))))))))))) [] (by kernel_rfl) (by kernel_rfl) (fun d _ _ _ _ h => by cases d <;> exact h) ?_
              iterate 13 (first
               | (refine wpLinR_take (v := ?_) rfl rfl (fun w' hw' => ?_) (fun K hK => ?_); rotate_left; (go_simp; rfl); (go_simp; refine hK _ ?_; clear hK K)))
              clear p2 p3 p4 pl
              refine wpLinR_one rfl (fun K hK => ?_)
              go_simp
              rw [← Hrv.out] at HRd
              refine HRd.out.mono ?_
              rintro e z ⟨v0, rfl, ho, hbz⟩
              obtain ⟨a2, k2, rfl, -, -, -, -⟩ := own_v ho
              obtain ⟨n2, hn2⟩ : ∃ n2, n2 = rv.1.length := ⟨_, rfl⟩
              have Hn2 := Lib.hid hn2.symm
              rw [← hn2] at ho ⊢
              clear hn2
              have hDy := (HDy.out.keep (Below.drew (Below.refl _ _))).keep hbz
              have ho2 := own_base ho (show g + 4 ≤ y.drew.heap.size from HDy.out.lt)
              have ho0 := own_below (own_below HO0y.out (Below.drew (Below.refl _ _))) hbz
              have ho1 := own_below (own_below HO1y.out (Below.drew (Below.refl _ _))) hbz
              have HDz := Lib.hid (hDy.set 2 (.slice a2 n2 k2) (.slice a0 k k0) (.slice a1 k k1) (.slice a2 n2 k2) rfl)
              have HOa := Lib.hid (ho0.kept (setCell_grown z (g + 3) 2 (.slice a2 n2 k2)) (by right; intro e; have := (ho0.lt _ e).1; omega))
              have HOb := Lib.hid (ho1.kept (setCell_grown z (g + 3) 2 (.slice a2 n2 k2)) (by right; intro e; have := (ho1.lt _ e).1; omega))
              have HOc := Lib.hid (ho2.kept (setCell_grown z (g + 3) 2 (.slice a2 n2 k2)) (by right; intro e; have := (ho2.lt _ e).1; omega))
              obtain ⟨-, -, d2, -, -, f2⟩ := hDy.col
              refine hK _ _ (.inr (But.of hbz)) ?_; clear hK K ho ho2 ho0 ho1 hbz hDy HRd
              iterate 4 (first
               | (refine wpLinR_take (v := ?_) rfl rfl (fun w' hw' => ?_) (fun K hK => ?_); rotate_left; (go_simp; rfl); (go_simp; refine hK _ ?_; clear hK K)))
              refine wpLinR_one rfl (fun K hK => ?_)
              go_simp
              refine hK _ _ (.inr ((But.refl _ _).setCell 2 _)) ?_; clear hK K
              refine wpLinR_take (v := ?_) rfl rfl (fun w' hw' => ?_) (fun K hK => ?_)
              rotate_left
              · go_simp; rfl
              go_simp; refine hK _ ?_; clear hK K
              refine wpLinR_nil ?_
              go_wp2
              go_meet
              exact ⟨a2, n2, k2, rfl, Hn2, HOa, HOb, HOc, HDz⟩
             case rest =>
             clear hsl2 l0 l1 l2 l3 d0 d1 d2 HDy HO0y HO1y Hcdy
             obtain ⟨a2, n2, k2, rfl, Hn2, HOa, HOb, HOc, HD⟩ := hcut
             obtain ⟨z, hzz⟩ : ∃ z, z = wc := ⟨_, rfl⟩
             subst hzz
             by_cases hz3 : rv.2 = 0
             · rw [hz3]
               have HRg : Hid (pgDec lf.r lf.d lf.kind p b ws = ((r1.1, r2.1, rv.1), 0)) := Lib.hid (by rw [HR5.out, if_pos hz3])
               obtain ⟨d0, d1, d2, -⟩ := HD.out.col
               obtain ⟨s0, s1, s2, f0, f1, f2⟩ := HD.out.res
               clear hz3
               go_wp2
               simp only [Exit.jump]
               obtain ⟨hfin, hbf⟩ := HD.out.fin (.slice a0 k k0) (.slice a1 k k1) (.slice a2 n2 k2)
               obtain ⟨q0, q1, q2, -⟩ := three_cellsT hfin
               exact bodyPost_ret (v := .tuple #[.agg #[.slice a0 k k0, .slice a1 k k1, .slice a2 n2 k2], .int .i64 0]) (by simp [results, Tryz.results9, go_sem, q0, q1, q2]) rfl (by
                rw [HRg.out]
                exact GaveCol.ok (finRow HOa.out (Nat.le_succ _)) (finRow HOb.out (Nat.le_succ _)) (finRow HOc.out (Nat.le_succ _)) hbf (by have := HD.out.hg; omega))
             · have HRb : Hid (pgDec lf.r lf.d lf.kind p b ws = pgBad rv.2) := Lib.hid (by rw [HR5.out, if_neg hz3])
               obtain ⟨ec, hec⟩ : ∃ ec, ec = rv.2 := ⟨_, rfl⟩
               rw [← hec] at HRb hz3 ⊢
               have f3 : ((ec : Int) != 0) = true := by simp [bne_iff_ne]; omega
               have f4 : ¬ (ec : Int) = 0 := by omega
               clear hec
               obtain ⟨d0, d1, d2, f0, f1, f2⟩ := HD.out.res
               go_wp2
               go_step3
               refine ⟨rfl, ?_⟩
               go_wp2
               simp only [Exit.jump]
               obtain ⟨hfin, hbf⟩ := HD.out.fin (.slice none 0 0) (.slice none 0 0) (.slice none 0 0)
               obtain ⟨q0, q1, q2, -⟩ := three_cellsT hfin
               exact bodyPost_ret (v := .tuple #[.agg #[.slice none 0 0, .slice none 0 0, .slice none 0 0], .int .i64 (ec : Nat)]) (by simp [results, Tryz.results9, go_sem, q0, q1, q2]) rfl (by rw [HRb.out]; exact GaveCol.bad ec hbf)
       · have HRb : Hid (pgDec lf.r lf.d lf.kind p b ws = pgBad r2.2) := Lib.hid (by rw [HR2.out, HR3.out, if_neg hz2])
         obtain ⟨ec, hec⟩ : ∃ ec, ec = r2.2 := ⟨_, rfl⟩
         rw [← hec] at HRb hz2 ⊢
         have f3 : ((ec : Int) != 0) = true := by simp [bne_iff_ne]; omega
         have f4 : ¬ (ec : Int) = 0 := by omega
         clear hec
         obtain ⟨d0, d1, d2, f0, f1, f2⟩ := HD.out.res
         go_wp2
         go_step3
         refine ⟨rfl, ?_⟩
         go_wp2
         simp only [Exit.jump]
         obtain ⟨hfin, hbf⟩ := HD.out.fin (.slice none 0 0) (.slice none 0 0) (.slice none 0 0)
         obtain ⟨q0, q1, q2, -⟩ := three_cellsT hfin
         exact bodyPost_ret (v := .tuple #[.agg #[.slice none 0 0, .slice none 0 0, .slice none 0 0], .int .i64 (ec : Nat)]) (by simp [results, Tryz.results9, go_sem, q0, q1, q2]) rfl (by rw [HRb.out]; exact GaveCol.bad ec hbf)
     · have HRb : Hid (pgDec lf.r lf.d lf.kind p b ws = pgBad r1.2) := Lib.hid (by rw [HR.out, HR1.out, if_neg hz1])
       obtain ⟨ec, hec⟩ : ∃ ec, ec = r1.2 := ⟨_, rfl⟩
       rw [← hec] at HRb hz1 ⊢
       have f3 : ((ec : Int) != 0) = true := by simp [bne_iff_ne]; omega
       have f4 : ¬ (ec : Int) = 0 := by omega
       clear hec
       obtain ⟨d0, d1, d2, f0, f1, f2⟩ := HD1.out.res
       go_wp2
       go_step3
       refine ⟨rfl, ?_⟩
       go_wp2
       simp only [Exit.jump]
       obtain ⟨hfin, hbf⟩ := HD1.out.fin (.slice none 0 0) (.slice none 0 0) (.slice none 0 0)
       obtain ⟨q0, q1, q2, -⟩ := three_cellsT hfin
       exact bodyPost_ret (v := .tuple #[.agg #[.slice none 0 0, .slice none 0 0, .slice none 0 0], .int .i64 (ec : Nat)]) (by simp [results, Tryz.results9, go_sem, q0, q1, q2]) rfl (by rw [HRb.out]; exact GaveCol.bad ec hbf)
   · have HR : Hid (pgDec lf.r lf.d lf.kind p b ws = pgBad 15) := Lib.hid (by unfold pgDec; rw [Hl.out, if_pos hok, if_neg hcrc])
     rw [decide_eq_true hcrc]
     obtain ⟨d0, d1, d2, f0, f1, f2⟩ := HD.out.res
     go_wp2
     go_step3
     refine ⟨rfl, ?_⟩
     go_wp2
     simp only [Exit.jump]
     obtain ⟨hfin, hbf⟩ := HD.out.fin (.slice none 0 0) (.slice none 0 0) (.slice none 0 0)
     obtain ⟨q0, q1, q2, -⟩ := three_cellsT hfin
     exact bodyPost_ret (v := .tuple #[.agg #[.slice none 0 0, .slice none 0 0, .slice none 0 0], .int .i64 15]) (by simp [results, Tryz.results9, go_sem, q0, q1, q2]) rfl (by rw [HR.out]; exact GaveCol.bad 15 hbf)
 · have HR : Hid (pgDec lf.r lf.d lf.kind p b ws = pgBad 10) := Lib.hid (by unfold pgDec; rw [Hl.out, if_neg hok])
   rw [decide_eq_false hok] at HF
   go_wp2_with fail
   refine HF.out.mono ?_
   rintro e x ⟨rfl, hb4⟩
   have HDx := Lib.hid (HD.out.keep hb4)
   clear hb4
   go_wp2
   obtain ⟨d0, d1, d2, f0, f1, f2⟩ := HDx.out.res
   go_step3
   refine ⟨rfl, ?_⟩
   go_wp2
   simp only [Exit.jump]
   obtain ⟨hfin, hbf⟩ := HDx.out.fin (.slice none 0 0) (.slice none 0 0) (.slice none 0 0)
   obtain ⟨q0, q1, q2, -⟩ := three_cellsT hfin
   exact bodyPost_ret (v := .tuple #[.agg #[.slice none 0 0, .slice none 0 0, .slice none 0 0], .int .i64 10]) (by simp [results, Tryz.results9, go_sem, q0, q1, q2]) rfl (by rw [HR.out]; exact GaveCol.bad 10 hbf)
end Go.Proofs.YtebmbkbnngeabaaGreat
