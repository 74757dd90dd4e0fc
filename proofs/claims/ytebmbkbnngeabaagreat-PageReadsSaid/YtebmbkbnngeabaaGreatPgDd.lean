/- Chapter 18's document: the walk over Decode. -/
import Derived.Test.YtebmbkbnngeabaaGreatPgDb
set_option linter.unusedSimpArgs false
namespace Go.Proofs.YtebmbkbnngeabaaGreat
open Go.RowKit
set_option linter.unusedVariables false
set_option maxHeartbeats 8000000 in
set_option maxRecDepth 100000 in
theorem rdecode18_any (lf : Lf) (p : Pg) (ao : Option Addr) (L cap : Nat) (b : List Nat) (aoW : Option Addr) (m capW : Nat) (ws : List Vl) (w : World) (hlr : lf.r ≤ 1000) (hld : lf.d ≤ 1000) (hlk : lf.kind ≤ 4) (hp : OkPg p)
 (hl : b.length = L) (hc : CellsAt w w.heap.size ao L (u8c b)) (hz : ao = none → L = 0) (hcap : L ≤ cap) (h256 : ∀ x ∈ b, x < 256) (hb : L ≤ 1000000) (hm : ws.length = m) (hm2 : m ≤ 1000000) (hw : CellsAt w w.heap.size aoW (m * 2) (vlc ws)) :
 Calls Tryz.prog 10 #[lfA lf, pgV p, .slice ao L cap, .slice aoW m capW] w (GaveCol w (pgDec lf.r lf.d lf.kind p b ws)) := by
 obtain ⟨w4, hw4⟩ : ∃ x, x = ((w.alloc (.cells #[.int .i64 (lf.field : Nat), .int .i64 (lf.r : Nat), .int .i64 (lf.d : Nat), .int .i64 (lf.kind : Nat)] 30)).alloc (.cells #[.int .i64 p.rows, .int .i64 p.cells, .int .i64 p.enc, .int .i64 p.rl, .int .i64 p.dl, .int .i64 p.vl, .int .u32 (p.crc : Nat)] 27)).alloc (.cells #[.slice none 0 0, .slice none 0 0, .slice none 0 0] 33) := ⟨_, rfl⟩
 obtain ⟨g, hg⟩ : ∃ g, g = w.heap.size := ⟨_, rfl⟩
 have hD : PB lf p g w w4 := by
  subst hw4
  refine ⟨?_, ?_, ?_, balloc (balloc (balloc (Below.refl _ _) _) _) _, hg.symm⟩
  · rw [heap_alloc_old _ _ (by simp; omega), heap_alloc_old _ _ (by simp; omega), hg]; exact heap_alloc_new w _
  · rw [heap_alloc_old _ _ (by simp; omega), hg]
    have h := heap_alloc_new (w.alloc (.cells #[.int .i64 (lf.field : Nat), .int .i64 (lf.r : Nat), .int .i64 (lf.d : Nat), .int .i64 (lf.kind : Nat)] 30)) (.cells #[.int .i64 p.rows, .int .i64 p.cells, .int .i64 p.enc, .int .i64 p.rl, .int .i64 p.dl, .int .i64 p.vl, .int .u32 (p.crc : Nat)] 27)
    simpa using h
  · rw [hg]
    have h := heap_alloc_new ((w.alloc (.cells #[.int .i64 (lf.field : Nat), .int .i64 (lf.r : Nat), .int .i64 (lf.d : Nat), .int .i64 (lf.kind : Nat)] 30)).alloc (.cells #[.int .i64 p.rows, .int .i64 p.cells, .int .i64 p.enc, .int .i64 p.rl, .int .i64 p.dl, .int .i64 p.vl, .int .u32 (p.crc : Nat)] 27)) (.cells #[.slice none 0 0, .slice none 0 0, .slice none 0 0] 33)
    simpa using h
 have Hl := Lib.hid hl; have Hc := Lib.hid hc; have Hz := Lib.hid hz; have H256 := Lib.hid h256; have Hm := Lib.hid hm; have Hw := Lib.hid hw; have HD := Lib.hid hD; have Hp := Lib.hid hp; have Hg := Lib.hid hg
 have HPt := Lib.hid (rparts_any p L w4 hp hb)
 have HRb : Hid (¬ pgOk p L → pgDec lf.r lf.d lf.kind p b ws = pgBad 10) := Lib.hid (fun h => by unfold pgDec; rw [Hl.out, if_neg h])
 have hrows := hp.rows; have hcells := hp.cells; have henc := hp.enc
 simp only [in64] at hrows hcells henc
 clear hl hc hz h256 hm hw hp hD
 unfold lfA pgV
 go_enter Tryz.func10, Tryz.ntmps10
 go_upto_region 1 with fail
 rw [← hw4, ← hg, show g + 1 + 1 = g + 2 from rfl]
 have H4 := Lib.hid hw4
 clear hw4 hg
 unfold pgV at HPt
 go_cut [50] (fun v wy => v = .bool (decide (¬ pgOk p L)) ∧ Hid (PB lf p g w wy))
 case first =>
  as_aux_lemma =>
   obtain ⟨c0, c1, c2, c3, c4, c5, c6⟩ := HD.out.page
   have Hne : Hid (¬ pgOk p L → decide (¬ pgOk p L) = true) := Lib.hid (fun h => decide_eq_true h)
   by_cases h1 : 1 ≤ p.rows
   · by_cases h2 : p.rows ≤ 64
     · by_cases h3 : p.rows ≤ p.cells
       · by_cases h4 : p.cells ≤ 4000
         · by_cases h5 : 0 ≤ p.enc
           · by_cases h6 : p.enc ≤ 2
             · have Hx : Hid (decide (¬ pgOk p L) = !(decide (partsOk p L))) := Lib.hid (by
                by_cases hp : partsOk p L
                · rw [decide_eq_false (show ¬ ¬ pgOk p L from fun h => h ⟨h1, h2, h3, h4, h5, h6, hp⟩), decide_eq_true hp]; rfl
                · rw [decide_eq_true (show ¬ pgOk p L from fun h => hp h.2.2.2.2.2.2), decide_eq_false hp]; rfl)
               obtain ⟨po, hpo⟩ : ∃ po, po = decide (partsOk p L) := ⟨_, rfl⟩
               rw [← hpo] at Hx HPt
               clear hpo
               go_wp2_with fail
               refine HPt.out.mono ?_
               rintro e x ⟨rfl, hbx⟩
               have HDx := Lib.hid (HD.out.keep hbx)
               clear hbx
               go_wp2
               go_meet
               exact ⟨by rw [Hx.out, decide_eq_false (show ¬ p.rows < 1 by omega), decide_eq_false (show ¬ 64 < p.rows by omega), decide_eq_false (show ¬ p.cells < p.rows by omega), decide_eq_false (show ¬ 4000 < p.cells by omega), decide_eq_false (show ¬ p.enc < 0 by omega), decide_eq_false (show ¬ 2 < p.enc by omega)]; rfl, HDx⟩
             · have HN := Lib.hid (Hne.out (fun h => h6 h.2.2.2.2.2.1))
               go_wp2
               go_meet
               exact ⟨by rw [HN.out], HD⟩
           · have HN := Lib.hid (Hne.out (fun h => h5 h.2.2.2.2.1))
             go_wp2
             go_meet
             exact ⟨by rw [HN.out], HD⟩
         · have HN := Lib.hid (Hne.out (fun h => h4 h.2.2.2.1))
           go_wp2
           go_meet
           exact ⟨by rw [HN.out], HD⟩
       · have HN := Lib.hid (Hne.out (fun h => h3 h.2.2.1))
         go_wp2
         go_meet
         exact ⟨by rw [HN.out], HD⟩
     · have HN := Lib.hid (Hne.out (fun h => h2 h.2.1))
       go_wp2
       go_meet
       exact ⟨by rw [HN.out], HD⟩
   · have HN := Lib.hid (Hne.out (fun h => h1 h.1))
     go_wp2
     go_meet
     exact ⟨by rw [HN.out], HD⟩
 case rest =>
 clear HPt HD
 obtain ⟨rfl, HD⟩ := hcut
 obtain ⟨x0, hxx⟩ : ∃ z, z = wc := ⟨_, rfl⟩
 subst hxx
 by_cases hok : pgOk p L
 · rw [decide_eq_false (show ¬ ¬ pgOk p L from fun h => h hok)]
   obtain ⟨c0, c1, c2, c3, c4, c5, c6⟩ := HD.out.page
   go_upto_region 3 with fail
   go_cut [56] (fun v wy => v = .bool (decide (¬ csum b = p.crc)) ∧ Hid (PB lf p g w wy))
   case first =>
    as_aux_lemma =>
     have p6 : ∀ w', Grows x0.drew w' → w'.cell? ⟨g + 1, 6, none⟩ = some (.int .u32 (p.crc : Nat)) := fun w' hg => Grows.cell (Grows.toDrew hg) c6
     obtain ⟨cs, hcs⟩ : ∃ cs, cs = csum b := ⟨_, rfl⟩
     have Hcs := Lib.hid hcs
     have hne : Hid (((cs : Int) != (p.crc : Int)) = decide (¬ csum b = p.crc)) := Lib.hid (by
      rw [← hcs]
      by_cases h : cs = p.crc
      · rw [h]; simp
      · simp only [h, not_false_eq_true, decide_true]; simp [bne_iff_ne]; omega)
     have hsum : ∀ w', Grows x0.drew w' → Calls Tryz.prog 8 #[.slice ao L cap] w' fun e w'' => e = .returned (.int .u32 (cs : Nat)) ∧ w' = w'' := fun w' hg => by
      rw [hcs]
      exact rsum_n ao L cap b w' Hl.out (by omega) H256.out (Hc.out.at ((Below.drew HD.out.b).trans (hg.mono HD.out.b.size)))
     have Hsum := Lib.hid hsum
     clear hcs hsum
     refine wp_region_linR Grows ⟨Grows.refl, Grows.trans⟩ (.take 0 (.take 1 (.take 2 (.take 3 (.take 4 (.done)))))) [] (by kernel_rfl) (by kernel_rfl) (fun d _ _ _ _ h => by cases d <;> exact h) ?_
     iterate 1 (first
      | (refine wpLinR_take (v := ?_) rfl rfl (fun w' hw' => ?_) (fun K hK => ?_); rotate_left; (go_simp; rfl); (go_simp; refine hK _ ?_; clear hK K)))
     refine wpLinR_take (v := .int .u32 (cs : Nat)) rfl rfl (fun w' hw' => ?_) (fun K hK => ?_)
     · go_simp
       refine (Hsum.out w' hw').mono ?_
       rintro e x4 ⟨rfl, rfl⟩
       exact ⟨rfl, rfl⟩
     go_simp; refine hK _ ?_; clear hK K
     iterate 3 (first
      | (refine wpLinR_take (v := ?_) rfl rfl (fun w' hw' => ?_) (fun K hK => ?_); rotate_left; (go_simp; rfl); (go_simp; refine hK _ ?_; clear hK K)))
     clear p6
     refine wpLinR_nil ?_
     go_wp2
     go_meet
     exact ⟨by rw [hne.out], Lib.hid (HD.out.keep (Below.drew (Below.refl _ _)))⟩
   case rest =>
   clear HD c0 c1 c2 c3 c4 c5 c6
   obtain ⟨rfl, HB⟩ := hcut
   obtain ⟨x1, hxx⟩ : ∃ z, z = wc := ⟨_, rfl⟩
   subst hxx
   by_cases hcrc : csum b = p.crc
   · rw [decide_eq_false (show ¬ ¬ csum b = p.crc from fun h => h hcrc)]
     obtain ⟨hr1, hr2, hr3, hr4, he1, he2, q1, q2, q3, q4, q5⟩ := hok
     obtain ⟨rl, hrl⟩ : ∃ rl : Nat, p.rl = rl := ⟨p.rl.toNat, by omega⟩
     obtain ⟨dl, hdl⟩ : ∃ dl : Nat, p.dl = dl := ⟨p.dl.toNat, by omega⟩
     obtain ⟨cn, hcn⟩ : ∃ cn : Nat, p.cells = cn := ⟨p.cells.toNat, by omega⟩
     have hrd : rl + dl ≤ L := by omega
     have hcn1 : 1 ≤ cn := by omega
     have hcn4 : cn ≤ 4000 := by omega
     have HR : Hid (pgDec lf.r lf.d lf.kind p b ws = pgD1 lf.r lf.d lf.kind p.rows p.enc cn rl dl b ws) := Lib.hid (by
      unfold pgDec
      rw [Hl.out, if_pos ⟨hr1, hr2, hr3, hr4, he1, he2, q1, q2, q3, q4, q5⟩, if_pos hcrc, hcn, hrl, hdl, Int.toNat_natCast, Int.toNat_natCast, Int.toNat_natCast])
     have Hrl := Lib.hid hrl; have Hdl := Lib.hid hdl; have Hcn := Lib.hid hcn; have Henc := Lib.hid (And.intro he1 he2)
     clear hr1 hr2 hr3 hr4 he1 he2 q1 q2 q3 q4 q5 hcrc hrl hdl hcn HRb hrows hcells henc
     obtain ⟨gc, hgc⟩ : ∃ gc, gc = x1.heap.size := ⟨_, rfl⟩
     obtain ⟨y1, hy1⟩ : ∃ y, y = x1.alloc (.cells #[.slice none 0 0, .slice none 0 0, .slice none 0 0] 33) := ⟨_, rfl⟩
     have hyb : Below x1.heap.size x1 y1 := by rw [hy1]; exact balloc (Below.refl _ _) _
     have hyc : y1.heap[gc]? = some (.cells #[.slice none 0 0, .slice none 0 0, .slice none 0 0] 33) := by rw [hgc, hy1]; exact heap_alloc_new x1 _
     have hD1 := HB.out.col hyb hgc hyc
     have HD := Lib.hid hD1
     have hgc3 := hD1.hgc
     have Hy1 := Lib.hid hy1; have Hgc := Lib.hid hgc
     obtain ⟨r1, hr1⟩ : ∃ r1, r1 = levDec (b.take rl) cn (bitLen lf.r) := ⟨_, rfl⟩
     have hR1 : pgD1 lf.r lf.d lf.kind p.rows p.enc cn rl dl b ws = if r1.2 = 0 then pgD2 lf.r lf.d lf.kind p.rows p.enc cn rl dl b ws r1.1 else pgBad r1.2 := by unfold pgD1; rw [← hr1]
     have HR1 := Lib.hid hR1; have Hr1 := Lib.hid hr1
     clear hR1 hr1 hyb hyc hD1 hgc
     go_upto_region 5 with fail
     go_cut [10] (fun v wy => v = .pointer (some ⟨gc, 0, none⟩) ∧ wy = y1)
     case first =>
      go_wp2
      rw [← hy1, ← Hgc.out]
      clear hy1
      go_wp2
      go_meet
      exact ⟨rfl, rfl⟩
     case rest =>
     clear hy1 HB Hy1
     obtain ⟨rfl, hwy⟩ := hcut
     have hyw := hwy.symm
     subst hyw
     clear hwy
     go_upto_region 7 with fail
     go_cut [11] (fun ev wy => ∃ (a0 : Option Addr) (n0 k0 : Nat), ev = .int .i64 (r1.2 : Nat) ∧ Hid (r1.1.length = n0) ∧ Hid (wy.ownsRow (gc + 1) 3 1 (.slice a0 n0 k0) n0 (natv r1.1)) ∧ Hid (PD lf p g gc (.slice a0 n0 k0) (.slice none 0 0) (.slice none 0 0) w wy))
     case first =>
      as_aux_lemma =>
       obtain ⟨l1, l2, l3⟩ := HD.out.leaf
       obtain ⟨c0, c1, c2, c3, c4, c5, c6⟩ := HD.out.page
       rw [Hcn.out] at c1
       rw [Hrl.out] at c3
       have p1 : ∀ w', But gc y1.drew w' → w'.cell? ⟨g + 1, 1, none⟩ = some (.int .i64 (cn : Nat)) := fun w' hg => But.cellNe hg (by show g + 1 ≠ gc; omega) c1
       have p3 : ∀ w', But gc y1.drew w' → w'.cell? ⟨g + 1, 3, none⟩ = some (.int .i64 (rl : Nat)) := fun w' hg => But.cellNe hg (by show g + 1 ≠ gc; omega) c3
       have pl : ∀ w', But gc y1.drew w' → w'.cell? ⟨g, 1, none⟩ = some (.int .i64 (lf.r : Nat)) := fun w' hg => But.cellNe hg (by show g ≠ gc; omega) l1
       have e1 : (0 : Int) ≤ (rl : Int) := by omega
       have e2 : (rl : Int) ≤ (cap : Int) := by omega
       have huw : IntKind.u64.wrap (lf.r : Int) = (lf.r : Int) := by simp [IntKind.wrap, IntKind.bits, IntKind.signed]; omega
       have hcx := (Hc.out.at HD.out.b)
       have hct : CellsAt y1.drew y1.drew.heap.size ao rl (u8c (b.take rl)) := fun i hi => by
        obtain ⟨b', o', he, hbl, hcc⟩ := hcx i (by omega)
        exact ⟨b', o', he, hbl, by rw [u8c_take _ _ _ hi]; exact hcc⟩
       have HLv := Lib.hid (rldec_any ao rl cap (cn : Nat) (bitLen lf.r : Nat) (b.take rl) y1.drew (by rw [List.length_take, Hl.out]; omega) hct (fun h => by have := Hz.out h; omega) (fun y hy => H256.out y (List.mem_of_mem_take hy)) (by omega))
       clear hcx hct c0 c1 c2 c3 c4 c5 c6 l1 l2 l3
       refine wp_region_linR (But gc) (But.pre gc) (.take 0 (.take 1 (.take 2 (.take 3 (.take 4 (.take 5 (.take 6 (.take 7 (.take 8 (.take 9 (.one 10 (.take 11 (.take 12 (.take 13 (.take 14 (.one 15 (.take 16 (.done)))))))))))))))))) [] (by kernel_rfl) (by kernel_rfl) (fun d _ _ _ _ h => by cases d <;> exact h) ?_
       iterate 9 (first
        | (refine wpLinR_take (v := ?_) rfl rfl (fun w' hw' => ?_) (fun K hK => ?_); rotate_left; (go_simp; rfl); (go_simp; refine hK _ ?_; clear hK K)))
       refine wpLinR_take (v := .int .i64 (bitLen lf.r : Nat)) rfl rfl (fun w' hw' => ?_) (fun K hK => ?_)
       · go_simp
         refine (rwidth_n lf.r _ (by omega)).mono ?_
         rintro e x4 ⟨rfl, rfl⟩
         exact ⟨rfl, rfl⟩
       go_simp; refine hK _ ?_; clear hK K
       clear p1 p3 pl
       refine wpLinR_one rfl (fun K hK => ?_)
       go_simp
       rw [← Hr1.out] at HLv
       refine HLv.out.mono ?_
       rintro e y ⟨v0, rfl, ho, hby⟩
       obtain ⟨a0, k0, rfl, -, -, -, -⟩ := own_nat ho
       obtain ⟨n0, hn0⟩ : ∃ n0, n0 = r1.1.length := ⟨_, rfl⟩
       have Hn0 := Lib.hid hn0.symm
       rw [← hn0] at ho ⊢
       clear hn0
       have hDy := (HD.out.keep (Below.drew (Below.refl _ _))).keep hby
       have ho2 := own_base ho (show gc + 1 ≤ y1.drew.heap.size from HD.out.lt)
       have HDy := Lib.hid (hDy.set 0 (.slice a0 n0 k0) (.slice a0 n0 k0) (.slice none 0 0) (.slice none 0 0) rfl)
       have HOy : Hid ((y.setCell ⟨gc, 0, none⟩ (.slice a0 n0 k0)).ownsRow (gc + 1) 3 1 (.slice a0 n0 k0) n0 (natv r1.1)) := Lib.hid (ho2.kept (setCell_grown y gc 0 (.slice a0 n0 k0)) (by right; intro e; have := (ho2.lt _ e).1; omega))
       obtain ⟨d0, -, -, f0, -, -⟩ := hDy.col
       refine hK _ _ (.inr (But.of hby)) ?_; clear hK K ho ho2 hby hDy HLv
       iterate 4 (first
        | (refine wpLinR_take (v := ?_) rfl rfl (fun w' hw' => ?_) (fun K hK => ?_); rotate_left; (go_simp; rfl); (go_simp; refine hK _ ?_; clear hK K)))
       refine wpLinR_one rfl (fun K hK => ?_)
       go_simp
       refine hK _ _ (.inr ((But.refl _ _).setCell 0 _)) ?_; clear hK K
       refine wpLinR_take (v := ?_) rfl rfl (fun w' hw' => ?_) (fun K hK => ?_)
       rotate_left
       · go_simp; rfl
       go_simp; refine hK _ ?_; clear hK K
       refine wpLinR_nil ?_
       go_wp2
       go_meet
       exact ⟨a0, n0, k0, rfl, Hn0, HOy, HDy⟩
     case rest =>
     obtain ⟨a0, n0, k0, rfl, Hn0, HO0, HD1⟩ := hcut
     obtain ⟨x2, hxx⟩ : ∃ z, z = wc := ⟨_, rfl⟩
     subst hxx
     clear HD
     by_cases hz1 : r1.2 = 0
     · rw [hz1]
       have HR2 : Hid (pgDec lf.r lf.d lf.kind p b ws = pgD2 lf.r lf.d lf.kind p.rows p.enc cn rl dl b ws r1.1) := Lib.hid (by rw [HR.out, HR1.out, if_pos hz1])
       have Hlen1 : Hid (n0 = cn) := Lib.hid (by rw [← Hn0.out, Hr1.out]; exact levDec_ok _ _ _ (by rw [← Hr1.out]; exact hz1))
       clear HR HR1 hz1
       obtain ⟨r2, hr2⟩ : ∃ r2, r2 = levDec ((b.drop rl).take dl) cn (bitLen lf.d) := ⟨_, rfl⟩
       have hR3 : pgD2 lf.r lf.d lf.kind p.rows p.enc cn rl dl b ws r1.1 = if r2.2 = 0 then pgD3 lf.r lf.d lf.kind p.rows p.enc rl dl b ws r1.1 r2.1 else pgBad r2.2 := by unfold pgD2; rw [← hr2]
       have HR3 := Lib.hid hR3; have Hr2 := Lib.hid hr2
       clear hR3 hr2
       obtain ⟨ao1, hao1, hsl⟩ := slice_lh ao L cap rl dl (by omega)
       have Hao1 := Lib.hid hao1
       clear hao1
       go_upto_region 9 with fail
       go_cut [11] (fun ev wy => ∃ (a1 : Option Addr) (n1 k1 : Nat), ev = .int .i64 (r2.2 : Nat) ∧ Hid (r2.1.length = n1) ∧ Hid (wy.ownsRow (gc + 1) 3 1 (.slice a0 n0 k0) n0 (natv r1.1)) ∧ Hid (wy.ownsRow (gc + 1) 3 1 (.slice a1 n1 k1) n1 (natv r2.1)) ∧ Hid (PD lf p g gc (.slice a0 n0 k0) (.slice a1 n1 k1) (.slice none 0 0) w wy))
       case first =>
        as_aux_lemma =>
         obtain ⟨l1, l2, l3⟩ := HD1.out.leaf
         obtain ⟨c0, c1, c2, c3, c4, c5, c6⟩ := HD1.out.page
         rw [Hcn.out] at c1
         rw [Hrl.out] at c3
         rw [Hdl.out] at c4
         have p1 : ∀ w', But gc x2.drew w' → w'.cell? ⟨g + 1, 1, none⟩ = some (.int .i64 (cn : Nat)) := fun w' hg => But.cellNe hg (by show g + 1 ≠ gc; omega) c1
         have p3 : ∀ w', But gc x2.drew w' → w'.cell? ⟨g + 1, 3, none⟩ = some (.int .i64 (rl : Nat)) := fun w' hg => But.cellNe hg (by show g + 1 ≠ gc; omega) c3
         have p4 : ∀ w', But gc x2.drew w' → w'.cell? ⟨g + 1, 4, none⟩ = some (.int .i64 (dl : Nat)) := fun w' hg => But.cellNe hg (by show g + 1 ≠ gc; omega) c4
         have pl : ∀ w', But gc x2.drew w' → w'.cell? ⟨g, 2, none⟩ = some (.int .i64 (lf.d : Nat)) := fun w' hg => But.cellNe hg (by show g ≠ gc; omega) l2
         have hwr : IntKind.i64.wrap ((rl : Int) + (dl : Int)) = (rl : Int) + (dl : Int) := IntWalk.i64_in _ (by omega)
         have huw : IntKind.u64.wrap (lf.d : Int) = (lf.d : Int) := by simp [IntKind.wrap, IntKind.bits, IntKind.signed]; omega
         have hcx := (Hc.out.at HD1.out.b)
         have hct : CellsAt x2.drew x2.drew.heap.size ao1 dl (u8c ((b.drop rl).take dl)) := by
          rcases Hao1.out with h | h
          · subst h; exact CellsAt.zero
          · rw [h]; exact drop_cells hcx (by omega)
         have HLv := Lib.hid (rldec_any ao1 dl (cap - rl) (cn : Nat) (bitLen lf.d : Nat) ((b.drop rl).take dl) x2.drew (by rw [List.length_take, List.length_drop, Hl.out]; omega) hct (fun h => by
          rcases Hao1.out with h2 | h2
          · exact h2
          · rw [h] at h2
            cases hao : ao with
            | none => have := Hz.out hao; omega
            | some a => rw [hao] at h2; cases h2) (fun y hy => H256.out y (List.mem_of_mem_drop (List.mem_of_mem_take hy))) (by omega))
         clear hcx hct c0 c1 c2 c3 c4 c5 c6 l1 l2 l3
         refine wp_region_linR (But gc) (But.pre gc) (.take 0 (.take 1 (.take 2 (.take 3 (.take 4 (.take 5 (.take 6 (.take 7 (.take 8 (.take 9 (.take 10 (.take 11 (.take 12 (.take 13 (.take 14 (.one 15 (.take 16 (.take 17 (.take 18 (.take 19 (.one 20 (.take 21 (.done))))))))))))))))))))))) [] (by kernel_rfl) (by kernel_rfl) (fun d _ _ _ _ h => by cases d <;> exact h) ?_
         iterate 14 (first
          | (refine wpLinR_take (v := ?_) rfl rfl (fun w' hw' => ?_) (fun K hK => ?_); rotate_left; (go_simp; rfl); (go_simp; refine hK _ ?_; clear hK K)))
         refine wpLinR_take (v := .int .i64 (bitLen lf.d : Nat)) rfl rfl (fun w' hw' => ?_) (fun K hK => ?_)
         · go_simp
           refine (rwidth_n lf.d _ (by omega)).mono ?_
           rintro e x4 ⟨rfl, rfl⟩
           exact ⟨rfl, rfl⟩
         go_simp; refine hK _ ?_; clear hK K
         clear p1 p3 p4 pl
         refine wpLinR_one rfl (fun K hK => ?_)
         go_simp
         rw [← Hr2.out] at HLv
         refine HLv.out.mono ?_
         rintro e y ⟨v0, rfl, ho, hby⟩
         obtain ⟨a1, k1, rfl, -, -, -, -⟩ := own_nat ho
         obtain ⟨n1, hn1⟩ : ∃ n1, n1 = r2.1.length := ⟨_, rfl⟩
         have Hn1 := Lib.hid hn1.symm
         rw [← hn1] at ho ⊢
         clear hn1
         have hDy := (HD1.out.keep (Below.drew (Below.refl _ _))).keep hby
         have ho2 := own_base ho (show gc + 1 ≤ x2.drew.heap.size from HD1.out.lt)
         have ho0 := own_below (own_below HO0.out (Below.drew (Below.refl _ _))) hby
         have HDy := Lib.hid (hDy.set 1 (.slice a1 n1 k1) (.slice a0 n0 k0) (.slice a1 n1 k1) (.slice none 0 0) rfl)
         have HOy : Hid ((y.setCell ⟨gc, 1, none⟩ (.slice a1 n1 k1)).ownsRow (gc + 1) 3 1 (.slice a1 n1 k1) n1 (natv r2.1)) := Lib.hid (ho2.kept (setCell_grown y gc 1 (.slice a1 n1 k1)) (by right; intro e; have := (ho2.lt _ e).1; omega))
         have HOz : Hid ((y.setCell ⟨gc, 1, none⟩ (.slice a1 n1 k1)).ownsRow (gc + 1) 3 1 (.slice a0 n0 k0) n0 (natv r1.1)) := Lib.hid (ho0.kept (setCell_grown y gc 1 (.slice a1 n1 k1)) (by right; intro e; have := (ho0.lt _ e).1; omega))
         obtain ⟨-, d1, -, -, f1, -⟩ := hDy.col
         refine hK _ _ (.inr (But.of hby)) ?_; clear hK K ho ho2 ho0 hby hDy HLv
         iterate 4 (first
          | (refine wpLinR_take (v := ?_) rfl rfl (fun w' hw' => ?_) (fun K hK => ?_); rotate_left; (go_simp; rfl); (go_simp; refine hK _ ?_; clear hK K)))
         refine wpLinR_one rfl (fun K hK => ?_)
         go_simp
         refine hK _ _ (.inr ((But.refl _ _).setCell 1 _)) ?_; clear hK K
         refine wpLinR_take (v := ?_) rfl rfl (fun w' hw' => ?_) (fun K hK => ?_)
         rotate_left
         · go_simp; rfl
         go_simp; refine hK _ ?_; clear hK K
         refine wpLinR_nil ?_
         go_wp2
         go_meet
         exact ⟨a1, n1, k1, rfl, Hn1, HOz, HOy, HDy⟩
       case rest =>
       clear hsl HO0 HD1
       obtain ⟨a1, n1, k1, rfl, Hn1, HO0, HO1, HD⟩ := hcut
       obtain ⟨x3, hxx⟩ : ∃ z, z = wc := ⟨_, rfl⟩
       subst hxx
       by_cases hz2 : r2.2 = 0
       · rw [hz2]
         have HR4 : Hid (pgDec lf.r lf.d lf.kind p b ws = pgD3 lf.r lf.d lf.kind p.rows p.enc rl dl b ws r1.1 r2.1) := Lib.hid (by rw [HR2.out, HR3.out, if_pos hz2])
         have hnn : n1 = n0 := by rw [← Hn1.out, Hlen1.out, Hr2.out]; exact levDec_ok _ _ _ (by rw [← Hr2.out]; exact hz2)
         have hn0 : 1 ≤ n0 ∧ n0 ≤ 4000 := by rw [Hlen1.out]; exact ⟨hcn1, hcn4⟩
         subst hnn
         obtain ⟨hn1, hn4⟩ := hn0
         clear HR2 HR3 hz2 Hlen1
         have hcr : CellsAt x3 x3.heap.size a0 n1 (i64c (ints r1.1)) := by
          obtain ⟨_, _, hv, -, -, hcc, -⟩ := own_nat HO0.out
          simp only [Value.slice.injEq, true_and] at hv
          rw [← nic_ints, hv.1]; exact hcc
         have hcd : CellsAt x3 x3.heap.size a1 n1 (i64c (ints r2.1)) := by
          obtain ⟨_, _, hv, -, -, hcc, -⟩ := own_nat HO1.out
          simp only [Value.slice.injEq, true_and] at hv
          rw [← nic_ints, hv.1]; exact hcc
         have Hcr := Lib.hid hcr; have Hcd := Lib.hid hcd
         clear hcr hcd
         obtain ⟨lo, hlo⟩ : ∃ lo, lo = levsOk lf.r lf.d p.rows (ints r1.1) (ints r2.1) := ⟨_, rfl⟩
         have Hlo := Lib.hid hlo
         clear hlo
         have hloE := Hlo.out
         unfold levsOk at hloE
         have HloE := Lib.hid hloE
         clear hloE
         go_upto_region 12 with fail
         go_cut [128] (fun v wy => v = .bool (!lo) ∧ wy = x3.drew)
         case first =>
          as_aux_lemma =>
           obtain ⟨l1, l2, l3⟩ := HD.out.leaf
           obtain ⟨c0, c1, c2, c3, c4, c5, c6⟩ := HD.out.page
           obtain ⟨d0, d1, d2, -⟩ := HD.out.col
           obtain ⟨tR, htR⟩ : ∃ t, t = topB lf.r (ints r1.1) := ⟨_, rfl⟩
           obtain ⟨tD, htD⟩ : ∃ t, t = topB lf.d (ints r2.1) := ⟨_, rfl⟩
           obtain ⟨x0, hx0⟩ : ∃ x, x = (ints r1.1).getD 0 0 := ⟨_, rfl⟩
           obtain ⟨ct, hct⟩ : ∃ c, c = cntI 0 (ints r1.1) := ⟨_, rfl⟩
           have hw1 : ∀ w', Grows x3.drew w' → Calls Tryz.prog 31 #[.slice a0 n1 k0, .int .i64 (lf.r : Nat)] w' fun e w'' => e = .returned (.bool tR) ∧ w' = w'' := fun w' hg => by
            rw [htR]; exact rwithin18_any a0 n1 k0 (ints r1.1) lf.r w' (by rw [ints_length, Hn0.out]) (by omega) (Hcr.out.at (Grows.toDrew hg))
           have hw2 : ∀ w', Grows x3.drew w' → Calls Tryz.prog 31 #[.slice a1 n1 k1, .int .i64 (lf.d : Nat)] w' fun e w'' => e = .returned (.bool tD) ∧ w' = w'' := fun w' hg => by
            rw [htD]; exact rwithin18_any a1 n1 k1 (ints r2.1) lf.d w' (by rw [ints_length, Hn1.out]) (by omega) (Hcd.out.at (Grows.toDrew hg))
           have hw3 : ∀ w', Grows x3.drew w' → Calls Tryz.prog 32 #[.slice a0 n1 k0, .int .i64 0] w' fun e w'' => e = .returned (.int .i64 (ct : Nat)) ∧ w' = w'' := fun w' hg => by
            rw [hct]; exact rcount18_any a0 n1 k0 (ints r1.1) 0 w' (by rw [ints_length, Hn0.out]) (by omega) (Hcr.out.at (Grows.toDrew hg))
           have hlo : lo = (tR && tD && decide (x0 = 0) && decide ((ct : Int) = p.rows)) := by rw [HloE.out, htR, htD, hx0, hct]
           obtain ⟨ba, oa, hae, -, hca⟩ := Hcr.out 0 (by omega)
           rw [i64c, ← hx0, Nat.add_zero] at hca
           have Hw1 := Lib.hid hw1; have Hw2 := Lib.hid hw2; have Hw3 := Lib.hid hw3; have HlE := Lib.hid hlo
           have p0 : ∀ w', Grows x3.drew w' → w'.cell? ⟨g + 1, 0, none⟩ = some (.int .i64 p.rows) := fun w' hg => Grows.cell (Grows.toDrew hg) c0
           have q1 : ∀ w', Grows x3.drew w' → w'.cell? ⟨g, 1, none⟩ = some (.int .i64 (lf.r : Nat)) := fun w' hg => Grows.cell (Grows.toDrew hg) l1
           have q2 : ∀ w', Grows x3.drew w' → w'.cell? ⟨g, 2, none⟩ = some (.int .i64 (lf.d : Nat)) := fun w' hg => Grows.cell (Grows.toDrew hg) l2
           have u0 : ∀ w', Grows x3.drew w' → w'.cell? ⟨gc, 0, none⟩ = some (.slice a0 n1 k0) := fun w' hg => Grows.cell (Grows.toDrew hg) d0
           have u1 : ∀ w', Grows x3.drew w' → w'.cell? ⟨gc, 1, none⟩ = some (.slice a1 n1 k1) := fun w' hg => Grows.cell (Grows.toDrew hg) d1
           have ua : ∀ w', Grows x3.drew w' → w'.cell? ⟨ba, oa, none⟩ = some (.int .i64 x0) := fun w' hg => Grows.cell (Grows.toDrew hg) hca
           have e0 : (0 : Int) < (n1 : Int) := by omega
           have e00 : 0 < n1 := by omega
           clear htR htD hx0 hct hw1 hw2 hw3 hlo HloE l1 l2 l3 c0 c1 c2 c3 c4 c5 c6 d0 d1 d2 hca Hlo
           subst hae
           cases tR with
           | false =>
            have hl : Hid (lo = false) := Lib.hid (by rw [HlE.out]; rfl)
            refine wp_region_linR Grows ⟨Grows.refl, Grows.trans⟩ (.take 0 (.take 1 (.take 2 (.take 3 (.take 4 (.take 5 (.take 6 (.take 7 (.take 8 (.take 9 (.take 10 (.take 11 (.take 12 (.take 13 (.take 14 (.take 15 (.take 16 (.take 17 (.take 18 (.take 19 (.take 20 (.take 21 (.take 22 (.take 23 (.take 24 (.take 25 (.take 26 (.take 27 (.take 28 (.done)))))))))))))))))))))))))))))) [] (by kernel_rfl) (by kernel_rfl) (fun d _ _ _ _ h => by cases d <;> exact h) ?_
            iterate 4 (first
             | (refine wpLinR_take (v := ?_) rfl rfl (fun w' hw' => ?_) (fun K hK => ?_); rotate_left; (go_simp; rfl); (go_simp; refine hK _ ?_; clear hK K)))
            refine wpLinR_take (v := .bool false) rfl rfl (fun w' hw' => ?_) (fun K hK => ?_)
            · go_simp
              refine (Hw1.out w' hw').mono ?_
              rintro e x4 ⟨rfl, rfl⟩
              exact ⟨rfl, rfl⟩
            go_simp; refine hK _ ?_; clear hK K
            iterate 24 (first
             | (refine wpLinR_skip rfl rfl (fun K hK => ?_); go_simp; refine hK _ ?_; clear hK K)
             | (refine wpLinR_take (v := ?_) rfl rfl (fun w' hw' => ?_) (fun K hK => ?_); rotate_left; (go_simp; rfl); (go_simp; refine hK _ ?_; clear hK K)))
            refine wpLinR_nil ?_
            go_wp2
            go_meet
            exact ⟨by rw [hl.out]; rfl, rfl⟩
           | true =>
            cases tD with
            | false =>
             have hl : Hid (lo = false) := Lib.hid (by rw [HlE.out]; rfl)
             refine wp_region_linR Grows ⟨Grows.refl, Grows.trans⟩ (.take 0 (.take 1 (.take 2 (.take 3 (.take 4 (.take 5 (.take 6 (.take 7 (.take 8 (.take 9 (.take 10 (.take 11 (.take 12 (.take 13 (.take 14 (.take 15 (.take 16 (.take 17 (.take 18 (.take 19 (.take 20 (.take 21 (.take 22 (.take 23 (.take 24 (.take 25 (.take 26 (.take 27 (.take 28 (.done)))))))))))))))))))))))))))))) [] (by kernel_rfl) (by kernel_rfl) (fun d _ _ _ _ h => by cases d <;> exact h) ?_
             iterate 4 (first
              | (refine wpLinR_take (v := ?_) rfl rfl (fun w' hw' => ?_) (fun K hK => ?_); rotate_left; (go_simp; rfl); (go_simp; refine hK _ ?_; clear hK K)))
             refine wpLinR_take (v := .bool true) rfl rfl (fun w' hw' => ?_) (fun K hK => ?_)
             · go_simp
               refine (Hw1.out w' hw').mono ?_
               rintro e x4 ⟨rfl, rfl⟩
               exact ⟨rfl, rfl⟩
             go_simp; refine hK _ ?_; clear hK K
             iterate 6 (first
              | (refine wpLinR_skip rfl rfl (fun K hK => ?_); go_simp; refine hK _ ?_; clear hK K)
              | (refine wpLinR_take (v := ?_) rfl rfl (fun w' hw' => ?_) (fun K hK => ?_); rotate_left; (go_simp; rfl); (go_simp; refine hK _ ?_; clear hK K)))
             refine wpLinR_take (v := .bool false) rfl rfl (fun w' hw' => ?_) (fun K hK => ?_)
             · go_simp
               refine (Hw2.out w' hw').mono ?_
               rintro e x4 ⟨rfl, rfl⟩
               exact ⟨rfl, rfl⟩
             go_simp; refine hK _ ?_; clear hK K
             iterate 17 (first
              | (refine wpLinR_skip rfl rfl (fun K hK => ?_); go_simp; refine hK _ ?_; clear hK K)
              | (refine wpLinR_take (v := ?_) rfl rfl (fun w' hw' => ?_) (fun K hK => ?_); rotate_left; (go_simp; rfl); (go_simp; refine hK _ ?_; clear hK K)))
             refine wpLinR_nil ?_
             go_wp2
             go_meet
             exact ⟨by rw [hl.out]; rfl, rfl⟩
            | true =>
             by_cases hx : x0 = 0
             · subst hx
               by_cases hc : (ct : Int) = p.rows
               · have hl : Hid (lo = true) := Lib.hid (by rw [HlE.out, decide_eq_true hc]; rfl)
                 have f1 : ((ct : Int) != (ct : Int)) = false := by simp
                 have p0c : ∀ w', Grows x3.drew w' → w'.cell? ⟨g + 1, 0, none⟩ = some (.int .i64 (ct : Nat)) := fun w' hg => by rw [hc]; exact p0 w' hg
                 clear p0 hc
                 refine wp_region_linR Grows ⟨Grows.refl, Grows.trans⟩ (.take 0 (.take 1 (.take 2 (.take 3 (.take 4 (.take 5 (.take 6 (.take 7 (.take 8 (.take 9 (.take 10 (.take 11 (.take 12 (.take 13 (.take 14 (.take 15 (.take 16 (.take 17 (.take 18 (.take 19 (.take 20 (.take 21 (.take 22 (.take 23 (.take 24 (.take 25 (.take 26 (.take 27 (.take 28 (.done)))))))))))))))))))))))))))))) [] (by kernel_rfl) (by kernel_rfl) (fun d _ _ _ _ h => by cases d <;> exact h) ?_
                 iterate 4 (first
                  | (refine wpLinR_take (v := ?_) rfl rfl (fun w' hw' => ?_) (fun K hK => ?_); rotate_left; (go_simp; rfl); (go_simp; refine hK _ ?_; clear hK K)))
                 refine wpLinR_take (v := .bool true) rfl rfl (fun w' hw' => ?_) (fun K hK => ?_)
                 · go_simp
                   refine (Hw1.out w' hw').mono ?_
                   rintro e x4 ⟨rfl, rfl⟩
                   exact ⟨rfl, rfl⟩
                 go_simp; refine hK _ ?_; clear hK K
                 iterate 6 (first
                  | (refine wpLinR_skip rfl rfl (fun K hK => ?_); go_simp; refine hK _ ?_; clear hK K)
                  | (refine wpLinR_take (v := ?_) rfl rfl (fun w' hw' => ?_) (fun K hK => ?_); rotate_left; (go_simp; rfl); (go_simp; refine hK _ ?_; clear hK K)))
                 refine wpLinR_take (v := .bool true) rfl rfl (fun w' hw' => ?_) (fun K hK => ?_)
                 · go_simp
                   refine (Hw2.out w' hw').mono ?_
                   rintro e x4 ⟨rfl, rfl⟩
                   exact ⟨rfl, rfl⟩
                 go_simp; refine hK _ ?_; clear hK K
                 iterate 12 (first
                  | (refine wpLinR_skip rfl rfl (fun K hK => ?_); go_simp; refine hK _ ?_; clear hK K)
                  | (refine wpLinR_take (v := ?_) rfl rfl (fun w' hw' => ?_) (fun K hK => ?_); rotate_left; (go_simp; rfl); (go_simp; refine hK _ ?_; clear hK K)))
                 refine wpLinR_take (v := .int .i64 (ct : Nat)) rfl rfl (fun w' hw' => ?_) (fun K hK => ?_)
                 · go_simp
                   refine (Hw3.out w' hw').mono ?_
                   rintro e x4 ⟨rfl, rfl⟩
                   exact ⟨rfl, rfl⟩
                 go_simp; refine hK _ ?_; clear hK K
                 iterate 4 (first
                  | (refine wpLinR_skip rfl rfl (fun K hK => ?_); go_simp; refine hK _ ?_; clear hK K)
                  | (refine wpLinR_take (v := ?_) rfl rfl (fun w' hw' => ?_) (fun K hK => ?_); rotate_left; (go_simp; rfl); (go_simp; refine hK _ ?_; clear hK K)))
                 refine wpLinR_nil ?_
                 go_wp2
                 go_meet
                 exact ⟨by rw [hl.out]; rfl, rfl⟩
               · have hl : Hid (lo = false) := Lib.hid (by rw [HlE.out, decide_eq_false hc, Bool.and_false])
                 have f1 : ((ct : Int) != p.rows) = true := by simp [bne_iff_ne]; exact hc
                 refine wp_region_linR Grows ⟨Grows.refl, Grows.trans⟩ (.take 0 (.take 1 (.take 2 (.take 3 (.take 4 (.take 5 (.take 6 (.take 7 (.take 8 (.take 9 (.take 10 (.take 11 (.take 12 (.take 13 (.take 14 (.take 15 (.take 16 (.take 17 (.take 18 (.take 19 (.take 20 (.take 21 (.take 22 (.take 23 (.take 24 (.take 25 (.take 26 (.take 27 (.take 28 (.done)))))))))))))))))))))))))))))) [] (by kernel_rfl) (by kernel_rfl) (fun d _ _ _ _ h => by cases d <;> exact h) ?_
                 iterate 4 (first
                  | (refine wpLinR_take (v := ?_) rfl rfl (fun w' hw' => ?_) (fun K hK => ?_); rotate_left; (go_simp; rfl); (go_simp; refine hK _ ?_; clear hK K)))
                 refine wpLinR_take (v := .bool true) rfl rfl (fun w' hw' => ?_) (fun K hK => ?_)
                 · go_simp
                   refine (Hw1.out w' hw').mono ?_
                   rintro e x4 ⟨rfl, rfl⟩
                   exact ⟨rfl, rfl⟩
                 go_simp; refine hK _ ?_; clear hK K
                 iterate 6 (first
                  | (refine wpLinR_skip rfl rfl (fun K hK => ?_); go_simp; refine hK _ ?_; clear hK K)
                  | (refine wpLinR_take (v := ?_) rfl rfl (fun w' hw' => ?_) (fun K hK => ?_); rotate_left; (go_simp; rfl); (go_simp; refine hK _ ?_; clear hK K)))
                 refine wpLinR_take (v := .bool true) rfl rfl (fun w' hw' => ?_) (fun K hK => ?_)
                 · go_simp
                   refine (Hw2.out w' hw').mono ?_
                   rintro e x4 ⟨rfl, rfl⟩
                   exact ⟨rfl, rfl⟩
                 go_simp; refine hK _ ?_; clear hK K
                 iterate 12 (first
                  | (refine wpLinR_skip rfl rfl (fun K hK => ?_); go_simp; refine hK _ ?_; clear hK K)
                  | (refine wpLinR_take (v := ?_) rfl rfl (fun w' hw' => ?_) (fun K hK => ?_); rotate_left; (go_simp; rfl); (go_simp; refine hK _ ?_; clear hK K)))
                 refine wpLinR_take (v := .int .i64 (ct : Nat)) rfl rfl (fun w' hw' => ?_) (fun K hK => ?_)
                 · go_simp
                   refine (Hw3.out w' hw').mono ?_
                   rintro e x4 ⟨rfl, rfl⟩
                   exact ⟨rfl, rfl⟩
                 go_simp; refine hK _ ?_; clear hK K
                 iterate 4 (first
                  | (refine wpLinR_skip rfl rfl (fun K hK => ?_); go_simp; refine hK _ ?_; clear hK K)
                  | (refine wpLinR_take (v := ?_) rfl rfl (fun w' hw' => ?_) (fun K hK => ?_); rotate_left; (go_simp; rfl); (go_simp; refine hK _ ?_; clear hK K)))
                 refine wpLinR_nil ?_
                 go_wp2
                 go_meet
                 exact ⟨by rw [hl.out]; rfl, rfl⟩
             · have hl : Hid (lo = false) := Lib.hid (by rw [HlE.out, decide_eq_false hx, Bool.and_false, Bool.false_and])
               have f1 : (x0 != 0) = true := by simp [bne_iff_ne]; exact hx
               refine wp_region_linR Grows ⟨Grows.refl, Grows.trans⟩ (.take 0 (.take 1 (.take 2 (.take 3 (.take 4 (.take 5 (.take 6 (.take 7 (.take 8 (.take 9 (.take 10 (.take 11 (.take 12 (.take 13 (.take 14 (.take 15 (.take 16 (.take 17 (.take 18 (.take 19 (.take 20 (.take 21 (.take 22 (.take 23 (.take 24 (.take 25 (.take 26 (.take 27 (.take 28 (.done)))))))))))))))))))))))))))))) [] (by kernel_rfl) (by kernel_rfl) (fun d _ _ _ _ h => by cases d <;> exact h) ?_
               iterate 4 (first
                | (refine wpLinR_take (v := ?_) rfl rfl (fun w' hw' => ?_) (fun K hK => ?_); rotate_left; (go_simp; rfl); (go_simp; refine hK _ ?_; clear hK K)))
               refine wpLinR_take (v := .bool true) rfl rfl (fun w' hw' => ?_) (fun K hK => ?_)
               · go_simp
                 refine (Hw1.out w' hw').mono ?_
                 rintro e x4 ⟨rfl, rfl⟩
                 exact ⟨rfl, rfl⟩
               go_simp; refine hK _ ?_; clear hK K
               iterate 6 (first
                | (refine wpLinR_skip rfl rfl (fun K hK => ?_); go_simp; refine hK _ ?_; clear hK K)
                | (refine wpLinR_take (v := ?_) rfl rfl (fun w' hw' => ?_) (fun K hK => ?_); rotate_left; (go_simp; rfl); (go_simp; refine hK _ ?_; clear hK K)))
               refine wpLinR_take (v := .bool true) rfl rfl (fun w' hw' => ?_) (fun K hK => ?_)
               · go_simp
                 refine (Hw2.out w' hw').mono ?_
                 rintro e x4 ⟨rfl, rfl⟩
                 exact ⟨rfl, rfl⟩
               go_simp; refine hK _ ?_; clear hK K
               iterate 17 (first
                | (refine wpLinR_skip rfl rfl (fun K hK => ?_); go_simp; refine hK _ ?_; clear hK K)
                | (refine wpLinR_take (v := ?_) rfl rfl (fun w' hw' => ?_) (fun K hK => ?_); rotate_left; (go_simp; rfl); (go_simp; refine hK _ ?_; clear hK K)))
               refine wpLinR_nil ?_
               go_wp2
               go_meet
               exact ⟨by rw [hl.out]; rfl, rfl⟩
         case rest =>
         clear Hcr HloE
         obtain ⟨rfl, hwy⟩ := hcut
         obtain ⟨y, hyy⟩ : ∃ z, z = wc := ⟨_, rfl⟩
         subst hyy
         have hb3 : Below x3.heap.size x3 y := by rw [hwy]; exact Below.drew (Below.refl _ _)
         have HDy := Lib.hid (HD.out.keep hb3)
         have HO0y := Lib.hid (own_below HO0.out hb3); have HO1y := Lib.hid (own_below HO1.out hb3); have Hcdy := Lib.hid (Hcd.out.at hb3)
         clear hwy hb3 HD HO0 HO1 Hcd
         cases lo with
         | false =>
          have HRc : Hid (pgDec lf.r lf.d lf.kind p b ws = pgBad 10) := Lib.hid (by rw [HR4.out]; unfold pgD3; rw [← Hlo.out]; rfl)
          obtain ⟨t0, t1, t2, g0, g1, g2⟩ := HDy.out.res
          go_wp2
          obtain ⟨hfin, hbf⟩ := HDy.out.fin (.slice none 0 0) (.slice none 0 0) (.slice none 0 0)
          obtain ⟨q0, q1, q2, -⟩ := three_cellsT hfin
          exact bodyPost_ret (v := .tuple #[.agg #[.slice none 0 0, .slice none 0 0, .slice none 0 0], .int .i64 (10 : Nat)]) (by simp [results, Tryz.results10, go_sem, q0, q1, q2]) rfl (by rw [HRc.out]; exact GaveCol.bad 10 hbf)
         | true =>
          obtain ⟨cv, hcv⟩ : ∃ cv, cv = cntI lf.d (ints r2.1) := ⟨_, rfl⟩
          have hcvn : cv ≤ n1 := by rw [hcv, ← Hn1.out, ← ints_length]; exact cntI_le _ _
          obtain ⟨rv, hrv⟩ : ∃ rv, rv = readV lf.kind p.enc (b.drop (rl + dl)) cv ws := ⟨_, rfl⟩
          have HR5 : Hid (pgDec lf.r lf.d lf.kind p b ws = if rv.2 = 0 then ((r1.1, r2.1, rv.1), 0) else pgBad rv.2) := Lib.hid (by rw [HR4.out]; unfold pgD3; rw [← Hlo.out, if_pos rfl, ← hcv, ← hrv])
          have Hrv := Lib.hid hrv
          have HCt := Lib.hid (rcount18_any a1 n1 k1 (ints r2.1) lf.d y (by rw [ints_length, Hn1.out]) (by omega) Hcdy.out)
          rw [← hcv] at HCt
          clear HR4 Hlo hrv hcv
          obtain ⟨ao2, hao2, hsl2⟩ := slice_from ao L cap (rl + dl) hrd hcap
          have Hao2 := Lib.hid hao2
          rw [Int.natCast_add] at hsl2
          obtain ⟨l0, l1, l2, l3⟩ := four_lf HDy.out.l
          obtain ⟨c0, c1, c2, c3, c4, c5, c6⟩ := HDy.out.page
          obtain ⟨d0, d1, d2, -⟩ := HDy.out.col
          rw [Hrl.out] at c3
          rw [Hdl.out] at c4
          have hwr : IntKind.i64.wrap ((rl : Int) + (dl : Int)) = (rl : Int) + (dl : Int) := IntWalk.i64_in _ (by omega)
          clear hao2
          go_wp2_with fail
          refine HCt.out.mono ?_
          rintro e x5 ⟨rfl, rfl⟩
          clear HCt
          go_upto_block 0 with fail
          go_cut [11] (fun ev wy => ∃ (a2 : Option Addr) (n2 k2 : Nat), ev = .int .i64 (rv.2 : Nat) ∧ Hid (rv.1.length = n2) ∧ Hid (wy.ownsRow (gc + 1) 3 1 (.slice a0 n1 k0) n1 (natv r1.1)) ∧ Hid (wy.ownsRow (gc + 1) 3 1 (.slice a1 n1 k1) n1 (natv r2.1)) ∧ Hid (wy.ownsRow (gc + 1) 81 2 (.slice a2 n2 k2) n2 (vcs rv.1)) ∧ Hid (PD lf p g gc (.slice a0 n1 k0) (.slice a1 n1 k1) (.slice a2 n2 k2) w wy))
          case first =>
           as_aux_lemma =>
            have hcx := (Hc.out.at HDy.out.b)
            have hct : CellsAt y y.heap.size ao2 (L - (rl + dl)) (u8c (b.drop (rl + dl))) := by
             rcases Hao2.out with h | h
             · rw [h]; exact CellsAt.zero
             · have h2 := drop_cells (m := L - (rl + dl)) hcx (p := rl + dl) (by omega)
               rw [List.take_of_length_le (by rw [List.length_drop, Hl.out]; exact Nat.le_refl _)] at h2
               rw [h]; exact h2
            have hcv : ao2 = none → L - (rl + dl) = 0 := fun h => by
             rcases Hao2.out with h2 | h2
             · exact h2
             · rw [h] at h2
               cases hao : ao with
               | none => have := Hz.out hao; omega
               | some a => rw [hao] at h2; cases h2
            have hbl : (b.drop (rl + dl)).length = L - (rl + dl) := by rw [List.length_drop, Hl.out]
            have hb6 : ∀ x ∈ b.drop (rl + dl), x < 256 := fun y hy => H256.out y (List.mem_of_mem_drop hy)
            have hrvE := Hrv.out
            unfold readV at hrvE
            obtain ⟨he1, he2⟩ := Henc.out
            have hen : p.enc = 0 ∨ p.enc = 1 ∨ p.enc = 2 := by omega
            have HrE := Lib.hid hrvE; have Hbl := Lib.hid hbl; have Hb6 := Lib.hid hb6
            clear hcx hrvE hbl hb6 he1 he2 c0 c1 c2 c3 c4 c5 c6 l0 l1 l2 d0 d1 d2 hsl2
            rcases hen with h0 | h0 | h0
            · have hE : Hid (decodeM lf.kind (b.drop (rl + dl)) cv = rv) := Lib.hid (by rw [HrE.out, h0]; rfl)
              have fe0 : (p.enc == 0) = true := by rw [h0]; rfl
              clear h0
              have HRd := Lib.hid (rdecode_any (lf.kind : Int) ao2 (L - (rl + dl)) (cap - (rl + dl)) (b.drop (rl + dl)) (cv : Int) y Hbl.out Hb6.out (by omega) hct hcv)
              rw [show decodeM (lf.kind : Int) (b.drop (rl + dl)) (cv : Int) = rv from hE.out] at HRd
              clear hcv hct
              go_wp2_with fail
              refine HRd.out.mono ?_
              rintro e z ⟨v0, rfl, ho, hbz⟩
              obtain ⟨a2, k2, rfl, -, -, -, -⟩ := own_v ho
              obtain ⟨n2, hn2⟩ : ∃ n2, n2 = rv.1.length := ⟨_, rfl⟩
              have Hn2 := Lib.hid hn2.symm
              rw [← hn2] at ho ⊢
              clear hn2
              have hDy := HDy.out.keep hbz
              have ho2 := own_base ho (show gc + 1 ≤ y.heap.size from HDy.out.lt)
              have ho0 := own_below HO0y.out hbz
              have ho1 := own_below HO1y.out hbz
              have HDz := Lib.hid (hDy.set 2 (.slice a2 n2 k2) (.slice a0 n1 k0) (.slice a1 n1 k1) (.slice a2 n2 k2) rfl)
              have HOa := Lib.hid (ho0.kept (setCell_grown z gc 2 (.slice a2 n2 k2)) (by right; intro e; have := (ho0.lt _ e).1; omega))
              have HOb := Lib.hid (ho1.kept (setCell_grown z gc 2 (.slice a2 n2 k2)) (by right; intro e; have := (ho1.lt _ e).1; omega))
              have HOc := Lib.hid (ho2.kept (setCell_grown z gc 2 (.slice a2 n2 k2)) (by right; intro e; have := (ho2.lt _ e).1; omega))
              obtain ⟨-, -, d2, -, -, f2⟩ := hDy.col
              clear ho ho2 ho0 ho1 hbz hDy HRd
              go_wp2
              go_meet
              exact ⟨a2, n2, k2, rfl, Hn2, HOa, HOb, HOc, HDz⟩
            · have hE : Hid (dDecM lf.kind (b.drop (rl + dl)) cv = rv) := Lib.hid (by rw [HrE.out, h0]; rfl)
              have fe0 : (p.enc == 0) = false := by rw [h0]; rfl
              have fe1 : (p.enc == 1) = true := by rw [h0]; rfl
              clear h0
              have HRd := Lib.hid (rddecode_any (lf.kind : Int) ao2 (L - (rl + dl)) (cap - (rl + dl)) (b.drop (rl + dl)) (cv : Int) y Hbl.out Hb6.out (by omega) (by omega) hct hcv)
              rw [show dDecM (lf.kind : Int) (b.drop (rl + dl)) (cv : Int) = rv from hE.out] at HRd
              clear hcv hct
              go_wp2_with fail
              refine HRd.out.mono ?_
              rintro e z ⟨v0, rfl, ho, hbz⟩
              obtain ⟨a2, k2, rfl, -, -, -, -⟩ := own_v ho
              obtain ⟨n2, hn2⟩ : ∃ n2, n2 = rv.1.length := ⟨_, rfl⟩
              have Hn2 := Lib.hid hn2.symm
              rw [← hn2] at ho ⊢
              clear hn2
              have hDy := HDy.out.keep hbz
              have ho2 := own_base ho (show gc + 1 ≤ y.heap.size from HDy.out.lt)
              have ho0 := own_below HO0y.out hbz
              have ho1 := own_below HO1y.out hbz
              have HDz := Lib.hid (hDy.set 2 (.slice a2 n2 k2) (.slice a0 n1 k0) (.slice a1 n1 k1) (.slice a2 n2 k2) rfl)
              have HOa := Lib.hid (ho0.kept (setCell_grown z gc 2 (.slice a2 n2 k2)) (by right; intro e; have := (ho0.lt _ e).1; omega))
              have HOb := Lib.hid (ho1.kept (setCell_grown z gc 2 (.slice a2 n2 k2)) (by right; intro e; have := (ho1.lt _ e).1; omega))
              have HOc := Lib.hid (ho2.kept (setCell_grown z gc 2 (.slice a2 n2 k2)) (by right; intro e; have := (ho2.lt _ e).1; omega))
              obtain ⟨-, -, d2, -, -, f2⟩ := hDy.col
              clear ho ho2 ho0 ho1 hbz hDy HRd
              go_wp2
              go_meet
              exact ⟨a2, n2, k2, rfl, Hn2, HOa, HOb, HOc, HDz⟩
            · have hE : Hid (dDec (b.drop (rl + dl)) cv ws = rv) := Lib.hid (by rw [HrE.out, h0]; rfl)
              have fe0 : (p.enc == 0) = false := by rw [h0]; rfl
              have fe1 : (p.enc == 1) = false := by rw [h0]; rfl
              clear h0
              have HRd := Lib.hid (rdDecode_any ao2 (L - (rl + dl)) (cap - (rl + dl)) (cv : Int) aoW m capW (b.drop (rl + dl)) ws y Hbl.out hct hcv Hb6.out (by omega) Hm.out hm2 (Hw.out.at HDy.out.b))
              rw [show dDec (b.drop (rl + dl)) (cv : Int) ws = rv from hE.out] at HRd
              clear hcv hct
              go_wp2_with fail
              refine HRd.out.mono ?_
              rintro e z ⟨v0, rfl, ho, hbz⟩
              obtain ⟨a2, k2, rfl, -, -, -, -⟩ := own_v ho
              obtain ⟨n2, hn2⟩ : ∃ n2, n2 = rv.1.length := ⟨_, rfl⟩
              have Hn2 := Lib.hid hn2.symm
              rw [← hn2] at ho ⊢
              clear hn2
              have hDy := HDy.out.keep hbz
              have ho2 := own_base ho (show gc + 1 ≤ y.heap.size from HDy.out.lt)
              have ho0 := own_below HO0y.out hbz
              have ho1 := own_below HO1y.out hbz
              have HDz := Lib.hid (hDy.set 2 (.slice a2 n2 k2) (.slice a0 n1 k0) (.slice a1 n1 k1) (.slice a2 n2 k2) rfl)
              have HOa := Lib.hid (ho0.kept (setCell_grown z gc 2 (.slice a2 n2 k2)) (by right; intro e; have := (ho0.lt _ e).1; omega))
              have HOb := Lib.hid (ho1.kept (setCell_grown z gc 2 (.slice a2 n2 k2)) (by right; intro e; have := (ho1.lt _ e).1; omega))
              have HOc := Lib.hid (ho2.kept (setCell_grown z gc 2 (.slice a2 n2 k2)) (by right; intro e; have := (ho2.lt _ e).1; omega))
              obtain ⟨-, -, d2, -, -, f2⟩ := hDy.col
              clear ho ho2 ho0 ho1 hbz hDy HRd
              go_wp2
              go_meet
              exact ⟨a2, n2, k2, rfl, Hn2, HOa, HOb, HOc, HDz⟩
          case rest =>
          clear l0 l1 l2 l3 c0 c1 c2 c3 c4 c5 c6 d0 d1 d2 hsl2 HDy HO0y HO1y Hcdy
          obtain ⟨a2, n2, k2, rfl, Hn2, HOa, HOb, HOc, HD⟩ := hcut
          obtain ⟨z, hzz⟩ : ∃ z, z = wc := ⟨_, rfl⟩
          subst hzz
          by_cases hz3 : rv.2 = 0
          · rw [hz3]
            have HRg : Hid (pgDec lf.r lf.d lf.kind p b ws = ((r1.1, r2.1, rv.1), 0)) := Lib.hid (by rw [HR5.out, if_pos hz3])
            obtain ⟨d0, d1, d2, -⟩ := HD.out.col
            obtain ⟨s0, s1, s2, f0, f1, f2⟩ := HD.out.res
            clear hz3
            go_wp2
            obtain ⟨hfin, hbf⟩ := HD.out.fin (.slice a0 n1 k0) (.slice a1 n1 k1) (.slice a2 n2 k2)
            obtain ⟨q0, q1, q2, -⟩ := three_cellsT hfin
            exact bodyPost_ret (v := .tuple #[.agg #[.slice a0 n1 k0, .slice a1 n1 k1, .slice a2 n2 k2], .int .i64 0]) (by simp [results, Tryz.results10, go_sem, q0, q1, q2]) rfl (by
             rw [HRg.out]
             exact GaveCol.ok (finRow HOa.out (by omega)) (finRow HOb.out (by omega)) (finRow HOc.out (by omega)) hbf (by have := HD.out.hg; omega))
          · have HRc : Hid (pgDec lf.r lf.d lf.kind p b ws = pgBad rv.2) := Lib.hid (by rw [HR5.out, if_neg hz3])
            obtain ⟨ec, hec⟩ : ∃ ec, ec = rv.2 := ⟨_, rfl⟩
            rw [← hec] at HRc hz3 ⊢
            have f3 : ((ec : Int) != 0) = true := by simp [bne_iff_ne]; omega
            have f4 : ¬ (ec : Int) = 0 := by omega
            clear hec
            obtain ⟨t0, t1, t2, g0, g1, g2⟩ := HD.out.res
            go_wp2
            obtain ⟨hfin, hbf⟩ := HD.out.fin (.slice none 0 0) (.slice none 0 0) (.slice none 0 0)
            obtain ⟨q0, q1, q2, -⟩ := three_cellsT hfin
            exact bodyPost_ret (v := .tuple #[.agg #[.slice none 0 0, .slice none 0 0, .slice none 0 0], .int .i64 (ec : Nat)]) (by simp [results, Tryz.results10, go_sem, q0, q1, q2]) rfl (by rw [HRc.out]; exact GaveCol.bad ec hbf)
       · have HRc : Hid (pgDec lf.r lf.d lf.kind p b ws = pgBad r2.2) := Lib.hid (by rw [HR2.out, HR3.out, if_neg hz2])
         obtain ⟨ec, hec⟩ : ∃ ec, ec = r2.2 := ⟨_, rfl⟩
         rw [← hec] at HRc hz2 ⊢
         have f3 : ((ec : Int) != 0) = true := by simp [bne_iff_ne]; omega
         have f5 : ((ec : Int) == 0) = false := by rw [beq_eq_false_iff_ne]; omega
         have f4 : ¬ (ec : Int) = 0 := by omega
         clear hec
         obtain ⟨t0, t1, t2, g0, g1, g2⟩ := HD.out.res
         go_wp2
         obtain ⟨hfin, hbf⟩ := HD.out.fin (.slice none 0 0) (.slice none 0 0) (.slice none 0 0)
         obtain ⟨q0, q1, q2, -⟩ := three_cellsT hfin
         exact bodyPost_ret (v := .tuple #[.agg #[.slice none 0 0, .slice none 0 0, .slice none 0 0], .int .i64 (ec : Nat)]) (by simp [results, Tryz.results10, go_sem, q0, q1, q2]) rfl (by rw [HRc.out]; exact GaveCol.bad ec hbf)
     · have HRc : Hid (pgDec lf.r lf.d lf.kind p b ws = pgBad r1.2) := Lib.hid (by rw [HR.out, HR1.out, if_neg hz1])
       obtain ⟨ec, hec⟩ : ∃ ec, ec = r1.2 := ⟨_, rfl⟩
       rw [← hec] at HRc hz1 ⊢
       have f3 : ((ec : Int) != 0) = true := by simp [bne_iff_ne]; omega
       have f5 : ((ec : Int) == 0) = false := by rw [beq_eq_false_iff_ne]; omega
       have f4 : ¬ (ec : Int) = 0 := by omega
       clear hec
       obtain ⟨t0, t1, t2, g0, g1, g2⟩ := HD1.out.res
       go_wp2
       obtain ⟨hfin, hbf⟩ := HD1.out.fin (.slice none 0 0) (.slice none 0 0) (.slice none 0 0)
       obtain ⟨q0, q1, q2, -⟩ := three_cellsT hfin
       exact bodyPost_ret (v := .tuple #[.agg #[.slice none 0 0, .slice none 0 0, .slice none 0 0], .int .i64 (ec : Nat)]) (by simp [results, Tryz.results10, go_sem, q0, q1, q2]) rfl (by rw [HRc.out]; exact GaveCol.bad ec hbf)
   · have HRc : Hid (pgDec lf.r lf.d lf.kind p b ws = pgBad 15) := Lib.hid (by unfold pgDec; rw [Hl.out, if_pos hok, if_neg hcrc])
     rw [decide_eq_true hcrc]
     obtain ⟨t0, t1, t2, g0, g1, g2⟩ := HB.out.res
     go_wp2
     obtain ⟨hfin, hbf⟩ := HB.out.fin (.slice none 0 0) (.slice none 0 0) (.slice none 0 0)
     obtain ⟨q0, q1, q2, -⟩ := three_cellsT hfin
     exact bodyPost_ret (v := .tuple #[.agg #[.slice none 0 0, .slice none 0 0, .slice none 0 0], .int .i64 (15 : Nat)]) (by simp [results, Tryz.results10, go_sem, q0, q1, q2]) rfl (by rw [HRc.out]; exact GaveCol.bad 15 hbf)
 · rw [decide_eq_true hok]
   have HRx := Lib.hid (HRb.out hok)
   obtain ⟨t0, t1, t2, g0, g1, g2⟩ := HD.out.res
   go_wp2
   obtain ⟨hfin, hbf⟩ := HD.out.fin (.slice none 0 0) (.slice none 0 0) (.slice none 0 0)
   obtain ⟨q0, q1, q2, -⟩ := three_cellsT hfin
   exact bodyPost_ret (v := .tuple #[.agg #[.slice none 0 0, .slice none 0 0, .slice none 0 0], .int .i64 (10 : Nat)]) (by simp [results, Tryz.results10, go_sem, q0, q1, q2]) rfl (by rw [HRx.out]; exact GaveCol.bad 10 hbf)
end Go.Proofs.YtebmbkbnngeabaaGreat
