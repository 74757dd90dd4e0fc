/- Chapter 14's document: the walk over value. -/
import Derived.Test.YtebmbkbnngeabaaGreatPgE
set_option linter.unusedSimpArgs false
namespace Go.Proofs.YtebmbkbnngeabaaGreat
open Go.RowKit
set_option linter.unusedVariables false
theorem leaf_okV {kind : Nat} {t : Tr} (h : LeafFit kind t) : okV ((t.1, t.2.1) : Vl) ∧ ((t.1, t.2.1) : Vl).2.size ≤ 8 := by
 obtain ⟨-, h⟩ := h
 rcases h with ⟨-, h1, h2, h3⟩ | ⟨-, h1, h2, h3⟩ | ⟨-, h1, h3⟩ | ⟨-, h1, h3⟩
 · rw [h3]; exact ⟨⟨⟨by show _ ≤ t.1; omega, by show t.1 ≤ _; omega⟩, Nat.zero_le _⟩, Nat.zero_le _⟩
 · rw [h3]; exact ⟨⟨⟨by show _ ≤ t.1; omega, by show t.1 ≤ _; omega⟩, Nat.zero_le _⟩, Nat.zero_le _⟩
 · rw [h3]; exact ⟨⟨h1, Nat.zero_le _⟩, Nat.zero_le _⟩
 · exact ⟨⟨⟨by show _ ≤ t.1; omega, by show t.1 ≤ _; omega⟩, by show t.2.1.size ≤ _; omega⟩, h3⟩
theorem natv_cell {w : World} {base E g n cap : Nat} {l : List Nat} (h : w.ownsRow base E 1 (.slice (some ⟨g, 0, none⟩) n cap) n (natv l)) (j : Nat) (hj : j < n) : w.cell? ⟨g, j, none⟩ = some (.int .i64 (l.getD j 0 : Nat)) := by
 have hl : l.length = n := by have := h.1; simpa [natv_length] using this
 rw [h.cellAt j (by omega), natv_at l j (by omega)]
set_option maxHeartbeats 8000000 in
set_option maxRecDepth 100000 in
theorem value14_any (C : WkC) (dep : Nat → Nat) (anc : Nat → Nat → Nat) (hC : WkOk C dep anc) (g : Nat) (S : Nat → Prop) (hS : ∀ b, S b → b ≤ g) : ∀ (k at_ r d : Nat) (t : Tr) (cs : List Cd) (w : World), at_ < C.n → TreeAt C.F C.P C.n w S k at_ t → Wk C w g cs → Room C (Wt dep anc at_) cs → r ≤ 100 → d ≤ dep at_ →
 Calls Tryz.prog 40 #[.pointer (some ⟨g, 0, none⟩), .int .i64 (at_ : Nat), .int .i64 (r : Nat), .int .i64 (d : Nat), .agg #[.int .i64 t.1, .string t.2.1, t.2.2]] w (GaveWk C g (Wt dep anc at_) cs w) := by
 intro k
 induction k with
 | zero => intro at_ r d t cs w _ h; exact h.elim
 | succ k ih =>
 intro at_ r d t cs w0 hat hT h0 hR hr hd
 have hn14 : C.n ≤ 14 := by rw [← hC.len]; exact hC.fin.small
 obtain ⟨tn, tS, tK⟩ := t
 obtain ⟨w, hw⟩ : ∃ x, x = w0.alloc (.cells #[.int .i64 tn, .string tS, tK] 86) := ⟨_, rfl⟩
 have hb1 : Below w0.heap.size w0 w := by rw [hw]; exact balloc (Below.refl _ _) _
 have hg0 := h0.lt
 have h := h0.keep hb1
 have hf1 := Fr.of hb1 hg0
 have hbx : w.heap[w0.heap.size]? = some (.cells #[.int .i64 tn, .string tS, tK] 86) := by rw [hw]; exact heap_alloc_new w0 _
 obtain ⟨gt, hgt⟩ : ∃ x, x = w0.heap.size := ⟨_, rfl⟩
 rw [← hgt] at hbx
 obtain ⟨x0, x1, x2, -⟩ := three_cellsT hbx
 obtain ⟨k0, k1, k2, k3, k4⟩ := five_cells h.blk
 have hgw := h.lt
 obtain ⟨b, off, hbe, hb, -, -, j2, -⟩ := h.s.fd hC.len hat
 rw [hbe] at k0
 obtain ⟨kd, hkd⟩ : ∃ kd, kd = (fAt C.F at_).kind := ⟨_, rfl⟩
 have hkd4 : kd ≤ 4 := by rw [hkd]; exact (hC.fin.kinds at_ (by rw [hC.len]; exact hat)).1
 have hd5 : dep at_ ≤ 5 := hC.fin.deep at_ (by rw [hC.len]; exact hat)
 rw [← hkd] at j2
 have f0 : (0 : Int) ≤ (at_ : Int) := by omega
 have f1 : (at_ : Int) < (C.n : Int) := by omega
 have HC := Lib.hid hC; have H := Lib.hid h; have HR := Lib.hid hR; have Hkd := Lib.hid hkd; have HS := Lib.hid hS
 have IH := Lib.hid ih; have Hf1 := Lib.hid hf1
 have hT := TreeAt.keep (hf1.keepS hS) (k + 1) at_ _ hT
 have HT := Lib.hid hT
 have Hgt := Lib.hid hgt
 clear hC h h0 hR hkd ih hS hb1 hf1 hT
 by_cases hk0 : kd = 0
 · subst hk0
   have Hk0 : Hid ((fAt C.F at_).kind = 0) := Lib.hid Hkd.out.symm
   have hT := HT.out
   unfold TreeAt at hT
   rw [if_neg (by simp [Hk0.out])] at hT
   obtain ⟨q1, q2, aoK, capK, q3, hK⟩ := hT
   simp only at q1 q2 q3
   subst q1; subst q2; subst q3
   obtain ⟨cn, hcn⟩ : ∃ cn, cn = cntTo C.P at_ C.n := ⟨_, rfl⟩
   simp only [← hcn] at hw hbx ⊢
   have HK := Lib.hid hK; have Hcn := Lib.hid hcn; have Hbx := Lib.hid hbx
   have hcnt0 : cntTo C.P at_ (at_ + 1) = 0 := cntTo_none _ _ _ (fun j h0 hj => by
    have := (HC.out.fin.par j h0 (by rw [HC.out.len]; omega)).1
    omega)
   clear HT hK hcn hbx x0 x1 x2
   go_enter Tryz.func40, Tryz.ntmps40
   go_upto_region 1 with fail
   rw [← hw, ← Hgt.out]
   clear hw hgt
   go_wp2
   go_loopw [10, 11] (fun nv iv wy => ∃ (i : Nat) (cs' : List Cd), at_ < i ∧ i ≤ C.n ∧ nv = .int .i64 (cntTo C.P at_ i : Nat) ∧ iv = .int .i64 (i : Nat) ∧ Hid (Wk C wy g cs') ∧ Hid (Grew C (Ut dep anc at_ i) cs cs') ∧ Hid (Fr g w wy)) (fun _ iv _ => C.n - (intOf iv).toNat)
   case atStart => exact ⟨at_ + 1, cs, Nat.lt_succ_self _, hat, by rw [hcnt0]; rfl, by go_num, H, Lib.hid (Grew.refl _ _ _), Lib.hid (Fr.refl _ _)⟩
   case round =>
    clear hcnt0
    obtain ⟨i, cs', hi, hin, rfl, rfl, HW, HG, HB⟩ := hrel
    obtain ⟨z, hzz⟩ : ∃ z, z = wr := ⟨_, rfl⟩
    subst hzz
    obtain ⟨ci, hci⟩ : ∃ ci, ci = cntTo C.P at_ i := ⟨_, rfl⟩
    rw [← hci]
    have hci14 : ci ≤ 14 := by have := cntTo_le C.P at_ i; omega
    have Hci := Lib.hid hci
    clear hci
    obtain ⟨m0, m1, -, m3, -⟩ := five_cells HW.out.blk
    by_cases hlt : i < C.n
    · have e1 : (i : Int) < (C.n : Int) := by omega
      have e2 : (0 : Int) ≤ (i : Int) := by omega
      have hiF : i < C.F.length := by rw [HC.out.len]; exact hlt
      obtain ⟨bp, op, hpe, hbp, jp⟩ := (HW.out.p) i hlt
      rw [hpe] at m1
      rw [i64c, parL_at _ _ _ hlt, if_neg (by omega)] at jp
      obtain ⟨Pi, hPi⟩ : ∃ Pi, Pi = C.P i := ⟨_, rfl⟩
      rw [← hPi] at jp
      by_cases hP : Pi = at_
      · have hPa : C.P i = at_ := by rw [← hPi, hP]
        have hst := fun j (hj : j < C.n) => Ut_step HC.out.fin.toSch at_ i j (by omega) hiF (by rw [HC.out.len]; exact hj) hPa
        have Hst := Lib.hid hst
        have hdi : dep i = dep at_ + 1 := by rw [(HC.out.fin.par i (by omega) hiF).2.1, hPa]
        have Hcn1 : Hid (cntTo C.P at_ (i + 1) = ci + 1) := Lib.hid (by rw [cntTo_at _ _ _ (by omega) hPa, Hci.out])
        have hcl : ci < cn := by rw [Hci.out, Hcn.out]; exact cntTo_lt _ _ _ _ (by omega) hPa hlt
        have e3 : (0 : Int) ≤ (ci : Int) := by omega
        have e4 : (ci : Int) < (cn : Int) := by omega
        obtain ⟨b2, o2, ao2, len2, cap2, rfl, hSb, hbw, hcell, hlk, hL⟩ := HK.out i hi hlt hPa
        have hkp : KeepS S w z := HB.out.keepS HS.out
        have hcell := hkp.cell (by exact hSb) (by exact hbw) hcell
        rw [← Hci.out] at hcell
        obtain ⟨y0, y1, y2, -⟩ := three_cellsT (HB.out.blk Hbx.out (by unfold XT; decide))
        have HL := Lib.hid hL; have Hlk := Lib.hid hlk
        have hlen3 : len2 ≤ 3 := hlk.2.2
        have Hdi := Lib.hid hdi
        rw [hP] at jp
        clear hPi hP hPa hst hdi hL hlk y0 y1
        by_cases hl0 : len2 = 0
        · subst hl0
          have hRi : Room C (Wt dep anc i) cs' := HR.out.after HG.out (fun j hj => by have := Hst.out j hj; have := Ut_le (dep := dep) (anc := anc) at_ (i + 1) j; omega)
          have HNo := Lib.hid (none14_any C dep anc HC.out g (C.n - i) i r d cs' z (Nat.le_refl _) hlt HW.out hRi hr (by omega))
          clear hRi
          go_wp2_with fail
          refine HNo.out.mono ?_
          rintro e x ⟨rfl, cs2, HW2, HG2, HB2⟩
          have HG3 : Hid (Grew C (Ut dep anc at_ (i + 1)) cs cs2) := Lib.hid (HG.out.trans HG2.out (fun j hj => by have := Hst.out j hj; omega))
          have HB3 := Lib.hid (HB.out.trans HB2.out)
          clear m0 m1 m3 jp hpe hbp y2 hcell
          go_wp2
          go_roundw
          case rel => exact ⟨i + 1, cs2, by omega, by omega, by rw [Hcn1.out]; go_num, by go_num, HW2, HG3, HB3⟩
          case measure => simp [intOf]; omega
        · have f5 : ((len2 : Int) == 0) = false := by rw [beq_eq_false_iff_ne]; omega
          have f6 : ¬ (len2 : Int) = 0 := by omega
          have f7 : ¬ len2 = 0 := hl0
          obtain ⟨b3, o3, hbe3, hb3, -, j1, -, -⟩ := HW.out.s.fd HC.out.len hlt
          rw [hbe3] at m0
          obtain ⟨rp, hrp⟩ : ∃ rp, rp = (fAt C.F i).rep := ⟨_, rfl⟩
          have hrp2 : rp ≤ 2 := by rw [hrp]; exact (HC.out.fin.kinds i hiF).2
          rw [← hrp] at j1
          clear hrp
          go_upto_if 77 with fail
          go_cut [13] (fun v wy => ∃ mo : Nat, mo ≤ 1 ∧ v = .int .i64 (mo : Nat) ∧ wy = z)
          case first =>
           by_cases hr0 : rp = 0
           · subst hr0
             go_wp2
             go_meet
             exact ⟨0, by omega, rfl, rfl⟩
           · have f8 : ((rp : Int) != 0) = true := by simp [bne_iff_ne]; omega
             have f9 : ¬ (rp : Int) = 0 := by omega
             clear hr0
             go_wp2
             go_meet
             exact ⟨1, by omega, rfl, rfl⟩
          case rest =>
          obtain ⟨mo, hmo, rfl, hwz⟩ := hcut
          have hzw := hwz.symm
          subst hzw
          clear hwz m0 m1 m3 jp hpe hbp y2 hcell j1 hbe3 hb3
          go_wp2
          go_loopw [14] (fun kv wy => ∃ (q : Nat) (cs2 : List Cd), q ≤ len2 ∧ kv = .int .i64 (q : Nat) ∧ Hid (Wk C wy g cs2) ∧ Hid (Grew C (fun j => Ut dep anc at_ i j + q * Wt dep anc i j) cs cs2) ∧ Hid (Fr g w wy)) (fun kv _ => len2 - (intOf kv).toNat)
          case atStart => exact ⟨0, cs', Nat.zero_le _, rfl, HW, Lib.hid (HG.out.mono (fun j hj => by simp)), HB⟩
          case round =>
           clear HW HG HB
           obtain ⟨q, cs2, hq, rfl, HW, HG, HB⟩ := hrel
           obtain ⟨y, hyy⟩ : ∃ y, y = wr := ⟨_, rfl⟩
           subst hyy
           by_cases hql : q < len2
           · have e5 : (q : Int) < (len2 : Int) := by omega
             have e6 : (0 : Int) ≤ (q : Int) := by omega
             obtain ⟨b4, o4, t4, rfl, hS4, hw4, t0, t1, t2, hT4⟩ := HL.out q hql
             have hkp : KeepS S w y := HB.out.keepS HS.out
             have s0 := hkp.cell (by exact hS4) (by exact hw4) t0
             have s1 := hkp.cell (by exact hS4) (by exact hw4) t1
             have s2 := hkp.cell (by exact hS4) (by exact hw4) t2
             clear t0 t1 t2
             have hT4 := TreeAt.keep hkp k i t4 hT4
             obtain ⟨aoT, mT, cT, hsT⟩ := TreeAt.slice k i t4 hT4
             obtain ⟨tn4, tS4, tK4⟩ := t4
             simp only at s0 s1 s2 hsT
             subst hsT
             have hql3 : q < 3 := by omega
             have hmul : ∀ j, (q + 1) * Wt dep anc i j = q * Wt dep anc i j + Wt dep anc i j := fun j => by rw [Nat.add_mul, Nat.one_mul]
             have hle3 : ∀ j, (q + 1) * Wt dep anc i j ≤ 3 * Wt dep anc i j := fun j => Nat.mul_le_mul_right _ (by omega)
             have hRi : Room C (Wt dep anc i) cs2 := HR.out.after HG.out (fun j hj => by have := Hst.out j hj; have := Ut_le (dep := dep) (anc := anc) at_ (i + 1) j; have := hmul j; have := hle3 j; omega)
             have hdm : d + mo ≤ dep i := by rw [Hdi.out]; omega
             have HIH : Hid (∀ (r' : Nat) (yy : World), r' ≤ 100 → Below y.heap.size y yy → Calls Tryz.prog 40 #[.pointer (some ⟨g, 0, none⟩), .int .i64 (i : Nat), .int .i64 (r' : Nat), .int .i64 ((d : Int) + (mo : Int)), .agg #[.int .i64 tn4, .string tS4, .slice aoT mT cT]] yy (GaveWk C g (Wt dep anc i) cs2 yy)) := Lib.hid (fun r' yy hr' hyy => by
              have h := IH.out i r' (d + mo) (tn4, tS4, .slice aoT mT cT) cs2 yy hlt (TreeAt.keep (KeepS.of hyy) k i _ hT4) (HW.out.keep hyy) hRi hr' hdm
              rw [Int.natCast_add] at h
              exact h)
             have Hmul := Lib.hid hmul
             clear hT4 hRi hmul hle3 hdm
             have e7 : IntKind.i64.wrap ((d : Int) + (mo : Int)) = ((d + mo : Nat) : Int) := by rw [IntWalk.i64_in _ (by omega)]; omega
             have HGs : Hid (∀ cs3, Grew C (Wt dep anc i) cs2 cs3 → Grew C (fun j => Ut dep anc at_ i j + (q + 1) * Wt dep anc i j) cs cs3) := Lib.hid (fun cs3 h => HG.out.trans h (fun j hj => by have := Hmul.out j; omega))
             by_cases hq0 : q = 0
             · subst hq0
               have HI := Lib.hid (HIH.out r y hr (Below.refl _ _))
               simp only [Nat.zero_mul, Nat.add_zero] at s0 s1 s2
               clear HIH
               go_wp2_with fail
               refine HI.out.mono ?_
               rintro e x ⟨rfl, cs3, HW3, HG3, HB3⟩
               have HG4 := Lib.hid (HGs.out cs3 HG3.out)
               have HB4 := Lib.hid (HB.out.trans HB3.out)
               clear s0 s1 s2
               go_wp2
               go_roundw
               case rel => exact ⟨0 + 1, cs3, by omega, by go_num, HW3, HG4, HB4⟩
               case measure => simp [intOf]; omega
             · have f8 : ((q : Int) == 0) = false := by rw [beq_eq_false_iff_ne]; omega
               have f9 : ¬ (q : Int) = 0 := by omega
               have f10 : ¬ q = 0 := hq0
               clear hq0
               obtain ⟨n0, n1, n2, n3, n4⟩ := five_cells HW.out.blk
               have hrows := HW.out.rows
               unfold wkRows at hrows
               have hoR : y.ownsRow (g + 1) 3 1 (.slice C.aoR C.n C.capR) C.n (natv C.RR) := hrows.1 ⟨3, 1, .slice C.aoR C.n C.capR, C.n, natv C.RR⟩ (List.mem_cons_of_mem _ (List.mem_cons_self ..))
               obtain ⟨gR, _, hvR, -, -⟩ := own_shapeG (show 0 < C.n by omega) hoR
               simp only [Value.slice.injEq, true_and] at hvR
               obtain ⟨hvR, hcR⟩ := hvR
               rw [hvR] at n3 hoR
               have cR := natv_cell hoR i hlt
               obtain ⟨ri, hri⟩ : ∃ ri, ri = C.RR.getD i 0 := ⟨_, rfl⟩
               have hri100 : ri ≤ 100 := by
                rw [hri, List.getD_eq_getElem?_getD, List.getElem?_eq_getElem (by rw [HC.out.lR]; exact hlt)]
                exact HC.out.bR _ (List.getElem_mem _)
               rw [← hri] at cR
               have HI := Lib.hid (HIH.out ri y.drew hri100 (Below.drew (Below.refl _ _)))
               have p3 : ∀ w', Grows y.drew w' → w'.cell? ⟨g, 3, none⟩ = some (.slice (some ⟨gR, 0, none⟩) C.n C.capR) := fun w' hg => Grows.cell (Grows.toDrew hg) n3
               have pR : ∀ w', Grows y.drew w' → w'.cell? ⟨gR, i, none⟩ = some (.int .i64 (ri : Nat)) := fun w' hg => Grows.cell (Grows.toDrew hg) cR
               have pt0 : ∀ w', Grows y.drew w' → w'.cell? ⟨b4, o4 + q * 3, none⟩ = some (.int .i64 tn4) := fun w' hg => Grows.cell (Grows.toDrew hg) s0
               have pt1 : ∀ w', Grows y.drew w' → w'.cell? ⟨b4, o4 + q * 3 + 1, none⟩ = some (.string tS4) := fun w' hg => Grows.cell (Grows.toDrew hg) s1
               have pt2 : ∀ w', Grows y.drew w' → w'.cell? ⟨b4, o4 + q * 3 + 2, none⟩ = some (.slice aoT mT cT) := fun w' hg => Grows.cell (Grows.toDrew hg) s2
               clear hri hcR hvR hoR hrows HIH n0 n1 n2 n3 n4 cR s0 s1 s2
               go_upto_region 20 with fail
               refine wp_region_linR Grows ⟨Grows.refl, Grows.trans⟩ (.take 0 (.take 1 (.take 2 (.take 3 (.take 4 (.take 5 (.take 6 (.take 7 (.take 8 (.take 9 (.take 10 (.take 11 (.take 12 (.take 13 (.take 14 (.take 15 (.one 16 (.done)))))))))))))))))) [16] (by kernel_rfl) (by kernel_rfl) (fun d _ _ _ _ h => by cases d <;> exact h) ?_
               iterate 16 (first
                | (refine wpLinR_take (v := ?_) rfl rfl (fun w' hw' => ?_) (fun K hK => ?_); rotate_left; (go_simp; rfl); (go_simp; refine hK _ ?_; clear hK K)))
               clear p3 pR pt0 pt1 pt2
               refine wpLinR_one rfl (fun K hK => ?_)
               go_simp
               refine HI.out.mono ?_
               rintro e x ⟨rfl, cs3, HW3, HG3, HB3⟩
               have HG4 := Lib.hid (HGs.out cs3 HG3.out)
               have HB4 := Lib.hid ((HB.out.drew).trans HB3.out)
               refine hK _ _ (.inl (by decide)) ?_; clear hK K
               refine wpLinR_nil ?_
               go_wp2
               go_roundw
               case rel => exact ⟨q + 1, cs3, by omega, by go_num, HW3, HG4, HB4⟩
               case measure => simp [intOf]; omega
           · obtain rfl : q = len2 := by omega
             have e5 : ¬ (q : Int) < (q : Int) := by omega
             have HG3 : Hid (Grew C (Ut dep anc at_ (i + 1)) cs cs2) := Lib.hid (HG.out.mono (fun j hj => by have := Hst.out j hj; have := Nat.mul_le_mul_right (Wt dep anc i j) hlen3; omega))
             go_wp2
             go_roundw
             case rel => exact ⟨i + 1, cs2, by omega, by omega, by rw [Hcn1.out]; go_num, by go_num, HW, HG3, HB⟩
             case measure => simp [intOf]; omega
      · have f3 : ((Pi : Int) != (at_ : Int)) = true := by simp [bne_iff_ne]; omega
        have f4 : ¬ (Pi : Int) = (at_ : Int) := by omega
        have hPn : C.P i ≠ at_ := by rw [← hPi]; exact hP
        have HG3 : Hid (Grew C (Ut dep anc at_ (i + 1)) cs cs') := Lib.hid (HG.out.mono (fun j hj => by rw [Ut_skip HC.out.fin.toSch at_ i j (by rw [HC.out.len]; exact hj) hPn]; exact Nat.le_refl _))
        have Hcn1 : Hid (cntTo C.P at_ (i + 1) = ci) := Lib.hid (by rw [cntTo_not _ _ _ (fun hh => hPn hh.2), Hci.out])
        clear hP hPi hPn
        go_wp2
        go_roundw
        case rel => exact ⟨i + 1, cs', by omega, by omega, by rw [Hcn1.out], by go_num, HW, HG3, HB⟩
        case measure => simp [intOf]; omega
    · obtain rfl : i = C.n := by omega
      have e1 : ¬ (C.n : Int) < (C.n : Int) := by omega
      have HG3 : Hid (Grew C (Wt dep anc at_) cs cs') := Lib.hid (HG.out.mono (fun j hj => Ut_le _ _ _))
      have HB3 := Lib.hid (Hf1.out.trans HB.out)
      go_wp2
      go_end0
      exact ⟨rfl, cs', HW, HG3, HB3⟩
 · have f2 : ((kd : Int) != 0) = true := by simp [bne_iff_ne]; omega
   have f3 : ¬ (kd : Int) = 0 := by omega
   have Hk0 : Hid ((fAt C.F at_).kind ≠ 0) := Lib.hid (by rw [← Hkd.out]; exact hk0)
   have hfit : LeafFit (fAt C.F at_).kind (tn, tS, tK) := by
    have := HT.out
    unfold TreeAt at this
    rw [if_pos Hk0.out] at this
    exact this
   obtain ⟨c1, c, c2, hcs, hq, hN⟩ := cs_at HC.out H.out hat Hk0.out HR.out
   have HCl := Lib.hid (cell14_any C dep anc HC.out g at_ r d (tn, tS) true c1 c c2 w (by rw [← hcs]; exact H.out) hat Hk0.out hq hN hr (by omega) (leaf_okV hfit))
   have Hcs := Lib.hid hcs; have Hq := Lib.hid hq
   obtain ⟨htK, -⟩ := hfit
   simp only at htK
   subst htK
   clear hcs hq hN hk0
   go_enter Tryz.func40, Tryz.ntmps40
   go_upto_region 1 with fail
   rw [← hw, ← Hgt.out]
   clear hw hgt
   go_wp2_with fail
   refine HCl.out.mono ?_
   rintro e x ⟨rfl, c', hN', HW, HB⟩
   have HG : Hid (Grew C (Wt dep anc at_) cs (c1 ++ c' :: c2)) := Lib.hid (by rw [Hcs.out]; exact Grew.one HC.out hat Hk0.out Hq.out hN')
   go_wp2
   exact bodyPost_ret (results_none rfl _ _ _) rfl ⟨rfl, _, HW, HG, Lib.hid (Hf1.out.trans HB.out)⟩
end Go.Proofs.YtebmbkbnngeabaaGreat
