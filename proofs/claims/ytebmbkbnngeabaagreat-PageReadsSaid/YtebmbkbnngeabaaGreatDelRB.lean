/- Chapter 12: the walk over the reader's block. -/
import Derived.Test.YtebmbkbnngeabaaGreatBunC
import Derived.Test.YtebmbkbnngeabaaGreatBunB
set_option linter.unusedSimpArgs false
namespace Go.Proofs.YtebmbkbnngeabaaGreat
open Go.RowKit
set_option linter.unusedVariables false
theorem unpackSpec_ok_length (b : List Nat) (n wd : Nat) (h : (unpackSpec b n wd).2 = 0) : (unpackSpec b n wd).1.length = n := by
 unfold unpackSpec at h ⊢
 repeat' split at h
 all_goals first | (simp at h; done) | skip
 rename_i h1 h2 h3 h4
 rw [if_neg h1, if_neg h2, if_neg h3, if_pos h4]
 simp [unpacked_length]
theorem own_apart {w : World} {b1 b2 : Nat} {e1 e2 : TypeId} {s1 s2 : Nat} {v1 v2 : Value} {n1 n2 : Nat} {x1 x2 : List Value} (h1 : w.ownsRow b1 e1 s1 v1 n1 x1) (h2 : w.ownsRow b2 e2 s2 v2 n2 x2) (he : e1 ≠ e2) : v1.ownBlock = none ∨ v1.ownBlock ≠ v2.ownBlock := by
 rcases h1.2 with ⟨rfl, -⟩ | ⟨g1, c1, cur1, rfl, -, hg1, -⟩
 · exact .inl rfl
 · right
   rcases h2.2 with ⟨rfl, -⟩ | ⟨g2, c2, cur2, rfl, -, hg2, -⟩
   · simp [Value.ownBlock]
   · simp only [Value.ownBlock, ne_eq, Option.some.injEq]
     rintro rfl
     rw [hg1] at hg2
     simp only [Option.some.injEq, Obj.cells.injEq] at hg2
     exact he hg2.2.1
set_option maxHeartbeats 8000000 in
set_option maxRecDepth 100000 in
theorem dblock_any (g : Nat) (b : List Nat) (l : List Int) (n : Nat) (w : World) (h : DRd w g b l) (h256 : ∀ x ∈ b, x < 256) (hL : b.length ≤ 1000000) (hl0 : l ≠ []) (hl : l.length ≤ 4000) (hn1 : 1 ≤ n) (hn2 : n ≤ 32) :
 Calls Tryz.prog 99 #[.pointer (some ⟨g, 0, none⟩), .int .i64 (n : Nat)] w fun e w' => e = .returned (.int .i64 ((blockR b l n).2.2 : Nat)) ∧ DRd w' g (blockR b l n).1 (blockR b l n).2.1 ∧ Below g w w' := by
 have hwlt := h.lt
 have HZ := Lib.hid (dzig_any g b l w h h256 hL)
 obtain ⟨least, hle⟩ : ∃ u, u = (zigR b).1 := ⟨_, rfl⟩
 obtain ⟨b1, hb1⟩ : ∃ u, u = (zigR b).2.1 := ⟨_, rfl⟩
 obtain ⟨er, her⟩ : ∃ u, u = (zigR b).2.2 := ⟨_, rfl⟩
 rw [← hle, ← hb1, ← her] at HZ
 have h2561 : Hid (∀ x ∈ b1, x < 256) := Lib.hid (by
  intro x hx
  rw [hb1] at hx
  unfold zigR at hx
  split at hx
  · exact h256 x hx
  · exact h256 x (List.mem_of_mem_drop hx))
 have hL1 : b1.length ≤ 1000000 := by
  rw [hb1]; unfold zigR; split
  · exact hL
  · simp only [List.length_drop]; omega
 by_cases h0 : er = 0
 · have hz : Hid (blockR b l n = blockT least b1 l n) := Lib.hid (by unfold blockR; rw [← her, ← hle, ← hb1, if_neg (by simp [h0])])
   rw [h0] at HZ
   clear hle hb1 her h h256 hL
   go_enter Tryz.func99, Tryz.ntmps99
   go_wp2_with fail
   refine HZ.out.mono ?_
   rintro e x ⟨rfl, hR, hB0⟩
   have hB : Below g w x := But.below (Below.refl g w) hB0 (Nat.le_refl _) (Nat.le_of_lt hwlt)
   clear hB0
   have HR := Lib.hid hR; have HB := Lib.hid hB
   have hlt := hR.lt
   obtain ⟨aoB, capB, aoL, capL, hg, hcB, hcapB, hrow⟩ := hR
   obtain ⟨c0, c1, f0, f1⟩ := two_cells hg
   by_cases hb0 : b1.length = 0
   · have hbT : Hid (blockT least b1 l n = (b1, l, 8)) := Lib.hid (by unfold blockT; rw [if_pos hb0])
     have e1 : ((b1.length : Nat) : Int) = 0 := by omega
     clear hg hcB hrow hB
     go_wp2
     go_ret
     rw [hz.out, hbT.out]
     exact ⟨rfl, HR.out, HB.out⟩
   · obtain ⟨bb, off, rfl, hbb, cw⟩ := hcB 0 (by omega)
     obtain ⟨wd, hwd⟩ : ∃ x, x = b1.getD 0 0 := ⟨_, rfl⟩
     rw [u8c, ← hwd, Nat.add_zero] at cw
     have hwd256 : wd < 256 := by rw [hwd]; exact getD_lt h2561.out 0
     have e1 : ((b1.length : Nat) : Int) ≠ 0 := by omega
     have e2 : (0 : Int) < ((b1.length : Nat) : Int) := by omega
     have wwd : IntKind.i64.wrap (wd : Int) = (wd : Int) := IntWalk.i64_in _ (by omega)
     by_cases hw64 : 64 < wd
     · have hbT : Hid (blockT least b1 l n = (b1, l, 10)) := Lib.hid (by unfold blockT; rw [if_neg hb0, ← hwd, if_pos hw64])
       have e3 : (64 : Int) < (wd : Int) := by omega
       clear hg hcB hrow hB hwd hb0
       go_wp2
       go_ret
       rw [hz.out, hbT.out]
       exact ⟨rfl, HR.out, HB.out⟩
     · have e3 : ¬ (64 : Int) < (wd : Int) := by omega
       obtain ⟨M, hM⟩ : ∃ M, M = n * wd := ⟨_, rfl⟩
       have hM2 : M ≤ 32 * 64 := by rw [hM]; exact Nat.mul_le_mul hn2 (by omega)
       have eM : (n : Int) * (wd : Int) = (M : Int) := by rw [hM]; simp
       obtain ⟨S, hS⟩ : ∃ S, S = (M + 7) / 8 := ⟨_, rfl⟩
       have eS : ((M : Int) + 7) / 8 = (S : Int) := by omega
       have hS2 : S ≤ 300 := by omega
       have hpS : packSize n wd = S := by unfold packSize; rw [← hM, hS]
       by_cases hS3 : b1.length - 1 < S
       · have hbT : Hid (blockT least b1 l n = (b1, l, 8)) := Lib.hid (by unfold blockT; rw [if_neg hb0, ← hwd, if_neg hw64, hpS, if_pos hS3])
         have e4 : ((b1.length : Nat) : Int) - 1 < (S : Int) := by omega
         clear hg hcB hrow hB hwd hb0 hM hS hpS
         go_wp2
         go_ret
         rw [hz.out, hbT.out]
         exact ⟨rfl, HR.out, HB.out⟩
       · have e4 : ¬ ((b1.length : Nat) : Int) - 1 < (S : Int) := by omega
         have e5 : (1 : Int) ≤ 1 + (S : Int) := by omega
         have e6 : 1 + (S : Int) ≤ (capB : Int) := by omega
         have e7 : 1 + (S : Int) ≤ ((b1.length : Nat) : Int) := by omega
         have hbl : Hid (b1.length ≠ 0 ∧ ¬ b1.length - 1 < S) := Lib.hid ⟨hb0, hS3⟩
         have Hwd := Lib.hid hwd; have HpS := Lib.hid hpS; have Hg := Lib.hid hg; have HcB := Lib.hid hcB; have Hrow := Lib.hid hrow
         clear hg hcB hrow hB hwd hb0 hM hS hpS hS3
         obtain ⟨xs, hxs⟩ : ∃ xs, xs = (b1.drop 1).take S := ⟨_, rfl⟩
         obtain ⟨us, hus0⟩ : ∃ us, us = unpackSpec xs n wd := ⟨_, rfl⟩
         have hsp : Hid (unpackSpec ((b1.drop 1).take S) n wd = us) := Lib.hid (by rw [hus0, hxs])
         have hxl : Hid (xs.length = S) := Lib.hid (by rw [hxs, List.length_take, List.length_drop]; have := hbl.out; omega)
         have hx256 : Hid (∀ x ∈ xs, x < 256) := Lib.hid (fun x hx => by rw [hxs] at hx; exact h2561.out x (List.mem_of_mem_drop (List.mem_of_mem_take hx)))
         have hul : Hid (us.2 = 0 → us.1.length = n) := Lib.hid (fun h => by rw [hus0] at h ⊢; exact unpackSpec_ok_length xs n wd h)
         have hu64 : Hid (∀ v ∈ us.1, v < 18446744073709551616) := Lib.hid (by rw [hus0]; exact unpackSpec_lt _ _ _)
         have husp : Hid (unpackSpec xs n wd = us) := Lib.hid hus0.symm
         have hue : us.2 ≤ 10 := by rw [hus0]; exact unpackSpec_err _ _ _
         have hcX : Hid (CellsAt x g (some ⟨bb, off + 1, none⟩) S (u8c xs)) := Lib.hid (fun i hi => by
          obtain ⟨_, _, e, hb, hcc⟩ := HcB.out (1 + i) (by have := hbl.out; omega)
          cases e
          refine ⟨bb, off + 1, rfl, hb, ?_⟩
          rw [Nat.add_assoc, hcc, hxs]
          rw [u8c, u8c, List.getD_eq_getElem?_getD, List.getD_eq_getElem?_getD, List.getElem?_take_of_lt hi, List.getElem?_drop])
         have Hw64 := Lib.hid hw64
         obtain ⟨nl, hnl⟩ : ∃ k, k = l.length := ⟨_, rfl⟩
         have hnl4 : nl ≤ 4000 := by omega
         have hnl1 : 1 ≤ nl := by rw [hnl]; exact List.length_pos_iff.2 hl0
         have Hnl := Lib.hid hnl
         clear hxs hus0 hnl hw64
         by_cases hc1 : capB = 1
         · subst hc1
           obtain rfl : S = 0 := by omega
           have hb11 : Hid (b1.length = 1) := Lib.hid (by omega)
           go_wp2_with fail
           refine (unpack_any (some ⟨bb, off, none⟩) 0 0 (n : Nat) (wd : Nat) xs _ hxl.out hx256.out (by omega) CellsAt.zero).mono ?_
           rw [husp.out]
           rintro e x2 ⟨vU, rfl, hf⟩
           have hoU0 := hf.1
           have hbU := hf.2
           by_cases hu : us.2 = 0
           · obtain ⟨vs, hvs⟩ : ∃ vs, vs = us.1 := ⟨_, rfl⟩
             have hbT : Hid (blockT least b1 l n = (b1.drop (1 + 0), l ++ accs least (lastI l) vs, 0)) := Lib.hid (by
              unfold blockT; rw [if_neg hbl.out.1, ← Hwd.out, if_neg Hw64.out, HpS.out, if_neg hbl.out.2, hsp.out, if_neg (by simp [hu]), ← hvs])
             have hvn : Hid (vs.length = n) := Lib.hid (by rw [hvs]; exact hul.out hu)
             have hv64 : Hid (∀ v ∈ vs, v < 18446744073709551616) := Lib.hid (by rw [hvs]; exact hu64.out)
             rw [← hvs] at hoU0
             have hoU : x2.ownsRow (g + 1) 61 1 vU n (u64v vs) := by
              have h := own_base hoU0 (show g + 1 ≤ x.heap.size from hlt)
              rw [u64v_length, hvn.out] at h; exact h
             obtain ⟨aoU, capU, rfl, -, -⟩ := own_u64c hoU
             have hg2 := (hbU.block g hlt).trans Hg.out
             have hcB2 := HcB.out.below (hbU.mono (Nat.le_of_lt hlt))
             have hrow2 := own_below Hrow.out hbU
             obtain ⟨d0, d1, g0, g1⟩ := two_cells hg2
             have hD3 := DRd.go hg2 hcB2 hcapB hrow2 (1 + 0) (by have := hbl.out; omega) (.slice (some ⟨bb, off, none⟩) 0 0) (.inr ⟨rfl, rfl⟩)
             have hU3 := hoU.kept (grown_set x2 g 0 (.slice (some ⟨bb, off, none⟩) 0 0)) (own_past hoU)
             have HU3 := Lib.hid hU3
             have HB3 : Hid (Below g w (x2.setCell ⟨g, 0, none⟩ (.slice (some ⟨bb, off, none⟩) 0 0))) := Lib.hid ((HB.out.trans (hbU.mono (Nat.le_of_lt hlt))).setCell (p := ⟨g, 0, none⟩) (Nat.le_refl _) _)
             have HD3 : Hid (DRd (x2.setCell ⟨g, 0, none⟩ (.slice (some ⟨bb, off, none⟩) 0 0)) g (b1.drop (1 + 0)) (accTo least l vs 0)) := Lib.hid (by rw [accTo_zero]; exact hD3)
             rw [hu]
             clear hoU0 hf hvs hul hu64 husp hg2 hcB2 hrow2 hD3 hU3 hoU hbU
             go_wp2
             go_loopw [76] (fun i z => ∃ j : Nat, j ≤ n ∧ i = .int .i64 (j : Nat) ∧ Hid (DRd z g (b1.drop (1 + 0)) (accTo least l vs j)) ∧ Hid (z.ownsRow (g + 1) 61 1 (.slice aoU n capU) n (u64v vs)) ∧ Hid (Below g w z)) (fun i _ => n - (intOf i).toNat)
             case atStart => exact ⟨0, Nat.zero_le _, rfl, HD3, HU3, HB3⟩
             case round =>
              clear HD3 HU3 HB3 HB HR Hg HcB Hrow hcX d0 d1 g0 g1 c0 c1 f0 f1 cw e1 e2 e3 e4 e5 e6 e7 eM eS wwd
              obtain ⟨j, hj, rfl, hDj, hUj, hBj⟩ := hrel
              obtain ⟨z, hzz⟩ : ∃ z, z = wr := ⟨_, rfl⟩
              subst hzz
              by_cases hjn : j < n
              · have q1 : (j : Int) < (n : Int) := by omega
                have q2 : (0 : Int) ≤ (j : Int) := by omega
                have hjv : j < vs.length := by rw [hvn.out]; exact hjn
                have hlj : (accTo least l vs j).length = nl + j := by rw [accTo_length _ _ _ _ (Nat.le_of_lt hjv), ← Hnl.out]
                have hzlt := hDj.out.lt
                obtain ⟨aoZ, capZ, aoM, capM, kg, kcB, kcapB, krow⟩ := hDj.out
                rw [hlj] at kg krow
                obtain ⟨k0, k1, h0, h1⟩ := two_cells kg
                obtain ⟨_, _, hUe, hcU, -⟩ := own_u64c hUj.out
                simp only [Value.slice.injEq, true_and] at hUe
                obtain ⟨rfl, rfl⟩ := hUe
                obtain ⟨bU, oU, rfl, hbUl, cU⟩ := hcU j hjn
                obtain ⟨vj, hvj⟩ : ∃ v, v = vs.getD j 0 := ⟨_, rfl⟩
                rw [u64c, ← hvj] at cU
                have hvj64 : vj < 18446744073709551616 := by rw [hvj, List.getD_eq_getElem?_getD, List.getElem?_eq_getElem hjv]; exact hv64.out _ (List.getElem_mem _)
                obtain ⟨_, _, hMe, hcM, -⟩ := own_i64 krow
                simp only [Value.slice.injEq, true_and] at hMe
                obtain ⟨rfl, rfl⟩ := hMe
                obtain ⟨lj, hlj2⟩ : ∃ k, k = nl + j := ⟨_, rfl⟩
                obtain ⟨ll, hll⟩ : ∃ k, k = lj - 1 := ⟨_, rfl⟩
                rw [← hlj2] at hlj kg krow k1 hcM
                obtain ⟨bM, oM, rfl, hbM, cM⟩ := hcM ll (by omega)
                obtain ⟨la, hla⟩ : ∃ v, v = lastI (accTo least l vs j) := ⟨_, rfl⟩
                have cM2 : (accTo least l vs j).getD ll 0 = la := by rw [hla, hll, ← hlj]; rfl
                rw [i64c, cM2] at cM
                have p1 : ∀ w', Grows z.drew w' → w'.cell? ⟨g, 1, none⟩ = some (.slice (some ⟨bM, oM, none⟩) lj capM) := fun w' hg => (Grows.toDrew hg).cell k1
                have p2 : ∀ w', Grows z.drew w' → w'.cell? ⟨bM, oM + ll, none⟩ = some (.int .i64 la) := fun w' hg => (Grows.toDrew hg).cell cM
                have q3 : (lj : Int) - 1 = (ll : Int) := by omega
                have q4 : (ll : Int) < (lj : Int) := by omega
                have q5 : (0 : Int) ≤ (ll : Int) := by omega
                have q6 : IntKind.i64.wrap (ll : Int) = (ll : Int) := IntWalk.i64_in _ (by omega)
                obtain ⟨nx, hnx⟩ : ∃ v, v = w64 (la + least + (vj : Int)) := ⟨_, rfl⟩
                have hwn : IntKind.i64.wrap (IntKind.i64.wrap (la + least) + IntKind.i64.wrap (vj : Int)) = nx := by
                 rw [hnx, IntKind.wrap_i64, IntKind.wrap_i64, IntKind.wrap_i64]; unfold w64; omega
                have hac : Hid (accTo least l vs (j + 1) = accTo least l vs j ++ [nx]) := Lib.hid (by rw [accTo_succ _ _ _ _ hl0 hjv, ← hvj, ← hla, ← hnx])
                have hownA := own_below krow ((Below.refl z.heap.size z).drew.alloc (Nat.le_refl _) (.cells #[.int .i64 nx] 3))
                have hUA := own_below hUj.out ((Below.refl z.heap.size z).drew.alloc (Nat.le_refl _) (.cells #[.int .i64 nx] 3))
                have hsA : g + 1 ≤ (z.drew.alloc (.cells #[.int .i64 nx] 3)).heap.size := Nat.le_trans hzlt (by simp)
                have hlj4 : lj ≤ 4032 := by omega
                have Hlj : Hid ((accTo least l vs j).length = lj) := Lib.hid hlj
                have Kg := Lib.hid kg; have KcB := Lib.hid kcB
                clear hvj hlj hlj2 hll hla cM2 hnx hcM hcU kg krow kcB cM k0 k1 hjv
                go_wp2
                refine wp_region_linP [(0, 3), (1, 3), (2, 3), (3, 3), (4, 0), (5, 3), (6, 3), (7, 3), (8, 0), (9, 3), (10, 3), (11, 3), (12, 0), (13, 3), (14, 3), (15, 3), (16, 0), (17, 3), (18, 3), (19, 3), (20, 3), (21, 3), (22, 1), (23, 2), (24, 3), (25, 3), (26, 2)] [23, 26] (by kernel_rfl) (by kernel_rfl) (fun d _ _ _ _ h => by cases d <;> exact h) ?_
                repeat (first
                 | (refine wpLinP_skip rfl rfl (fun K hK => ?_); go_simp; refine hK _ ?_; clear hK K)
                 | (refine wpLinP_pure (v := ?_) rfl rfl (fun w' => ?_) (fun K hK => ?_); rotate_left; (go_simp; rfl); (go_simp; refine hK _ ?_; clear hK K))
                 | (refine wpLinP_take (v := ?_) rfl rfl (fun w' hw' => ?_) (fun K hK => ?_); rotate_left; (go_simp; rfl); (go_simp; refine hK _ ?_; clear hK K)))
                refine wpLinP_do rfl (fun K hK => ?_); go_simp; refine hK _ _ ((Grows.refl z.drew).alloc _) ?_; clear hK K
                refine wpLinP_hard rfl (fun K hK => ?_)
                refine step_append_all1 sl_i64' rfl (.tmp 84) (.tmp 102) rfl rfl hownA rfl (cells_one z.drew 3 (.int .i64 nx)) (fun h => by cases h) (fun _ _ => rfl) (by unfold maxLen; omega) (by omega) hsA ?_
                intro v' y2 ho2 hgr
                obtain ⟨aoQ, capQ, rfl, -, -⟩ := own_cells ho2
                have hbz : Below z.heap.size z (z.drew.alloc (.cells #[.int .i64 nx] 3)) := (Below.refl _ _).drew.alloc (Nat.le_refl _) _
                have hbY2 : Below (g + 1) (z.drew.alloc (.cells #[.int .i64 nx] 3)) y2 := (Below.refl _ _).grown hgr hsA (fun k hk => (hownA.lt k hk).1)
                have hbZ : Below (g + 1) z y2 := (hbz.mono hzlt).trans hbY2
                have hgZ := (hbZ.block g (Nat.lt_succ_self g)).trans Kg.out
                have hoQ : y2.ownsRow (g + 1) 3 1 (.slice aoQ (lj + 1) capQ) (lj + 1) (i64v (accTo least l vs (j + 1))) := by
                 rw [hac.out, ← i64v_append]; exact ho2
                have hUQ := hUA.kept hgr (own_apart hUA hownA (by decide))
                have hcBQ := KcB.out.below (hbZ.mono (Nat.le_succ g))
                obtain ⟨z0, z1, z2, z3⟩ := two_cells hgZ
                have hljn : Hid ((accTo least l vs (j + 1)).length = lj + 1) := Lib.hid (by rw [hac.out, List.length_append, Hlj.out]; rfl)
                have HDn : Hid (DRd (y2.setCell ⟨g, 1, none⟩ (.slice aoQ (lj + 1) capQ)) g (b1.drop (1 + 0)) (accTo least l vs (j + 1))) := Lib.hid ⟨aoZ, capZ, aoQ, capQ, by rw [hljn.out]; exact two_set1 hgZ _, hcBQ.below ((Below.refl g _).setCell (p := ⟨g, 1, none⟩) (Nat.le_refl _) _), kcapB, by rw [hljn.out]; exact hoQ.kept (grown_set y2 g 1 _) (own_past hoQ)⟩
                have HUn := Lib.hid (hUQ.kept (grown_set y2 g 1 (.slice aoQ (lj + 1) capQ)) (own_past hUQ))
                have HBn : Hid (Below g w (y2.setCell ⟨g, 1, none⟩ (.slice aoQ (lj + 1) capQ))) := Lib.hid ((hBj.out.trans (hbZ.mono (Nat.le_succ g))).setCell (p := ⟨g, 1, none⟩) (Nat.le_refl _) _)
                clear ho2 hgr hbY2 hownA hUA hgZ z0 z2 hoQ hUQ hcBQ hsA hbz hbZ
                go_simp; refine hK _ _ ?_; clear hK K p1 p2
                repeat (first
                 | (refine wpLinP_skip rfl rfl (fun K hK => ?_); go_simp; refine hK _ ?_; clear hK K)
                 | (refine wpLinP_pure (v := ?_) rfl rfl (fun w' => ?_) (fun K hK => ?_); rotate_left; (go_simp; rfl); (go_simp; refine hK _ ?_; clear hK K))
                 | (refine wpLinP_take (v := ?_) rfl rfl (fun w' hw' => ?_) (fun K hK => ?_); rotate_left; (go_simp; rfl); (go_simp; refine hK _ ?_; clear hK K)))
                refine wpLinP_hard rfl (fun K hK => ?_); go_simp
                refine hK _ _ ?_; clear hK K
                refine wpLinP_nil ?_
                go_wp2
                go_roundw
                case rel => exact ⟨j + 1, by omega, by go_num, HDn, HUn, HBn⟩
                case measure => simp [intOf]; omega
              · have q1 : ¬ (j : Int) < (n : Int) := by omega
                have hjn2 : Hid (j = vs.length) := Lib.hid (by rw [hvn.out]; omega)
                have hD := hDj.out
                rw [hjn2.out, accTo_all] at hD
                have HD := Lib.hid hD
                clear hD hDj hUj
                go_wp2
                go_ret
                rw [hz.out, hbT.out]
                exact ⟨rfl, HD.out, hBj.out⟩
           · have hbT : Hid (blockT least b1 l n = (b1, l, us.2)) := Lib.hid (by
              unfold blockT; rw [if_neg hbl.out.1, ← Hwd.out, if_neg Hw64.out, HpS.out, if_neg hbl.out.2, hsp.out, if_pos hu])
             obtain ⟨er2, he2⟩ : ∃ k, k = us.2 := ⟨_, rfl⟩
             rw [← he2] at hu hbT ⊢
             have h1 : ((er2 : Int) == 0) = false := by rw [beq_eq_false_iff_ne]; omega
             have h2 : (er2 : Int) ≠ 0 := by omega
             have HRf := Lib.hid (HR.out.keep hbU)
             have HBf := Lib.hid (HB.out.trans (hbU.mono (Nat.le_of_lt hlt)))
             clear hf hoU0 hbU he2 hu
             go_wp2
             go_ret
             rw [hz.out, hbT.out]
             exact ⟨rfl, HRf.out, HBf.out⟩
         · have hc11 : 1 ≠ capB := fun e => hc1 e.symm
           have hc12 : 1 < capB := by omega
           by_cases hc2 : capB = 1 + S
           · subst hc2
             go_wp2_with fail
             refine (unpack_any (some ⟨bb, off + 1, none⟩) S S (n : Nat) (wd : Nat) xs _ hxl.out hx256.out (by omega) (hcX.out.mono (Nat.le_of_lt hlt))).mono ?_
             rw [husp.out]
             rintro e x2 ⟨vU, rfl, hf⟩
             have hoU0 := hf.1
             have hbU := hf.2
             by_cases hu : us.2 = 0
             · obtain ⟨vs, hvs⟩ : ∃ vs, vs = us.1 := ⟨_, rfl⟩
               have hbT : Hid (blockT least b1 l n = (b1.drop (1 + S), l ++ accs least (lastI l) vs, 0)) := Lib.hid (by
                unfold blockT; rw [if_neg hbl.out.1, ← Hwd.out, if_neg Hw64.out, HpS.out, if_neg hbl.out.2, hsp.out, if_neg (by simp [hu]), ← hvs])
               have hvn : Hid (vs.length = n) := Lib.hid (by rw [hvs]; exact hul.out hu)
               have hv64 : Hid (∀ v ∈ vs, v < 18446744073709551616) := Lib.hid (by rw [hvs]; exact hu64.out)
               rw [← hvs] at hoU0
               have hoU : x2.ownsRow (g + 1) 61 1 vU n (u64v vs) := by
                have h := own_base hoU0 (show g + 1 ≤ x.heap.size from hlt)
                rw [u64v_length, hvn.out] at h; exact h
               obtain ⟨aoU, capU, rfl, -, -⟩ := own_u64c hoU
               have hg2 := (hbU.block g hlt).trans Hg.out
               have hcB2 := HcB.out.below (hbU.mono (Nat.le_of_lt hlt))
               have hrow2 := own_below Hrow.out hbU
               obtain ⟨d0, d1, g0, g1⟩ := two_cells hg2
               have hD3 := DRd.go hg2 hcB2 hcapB hrow2 (1 + S) (by have := hbl.out; omega) (.slice (some ⟨bb, off, none⟩) 0 0) (.inr ⟨rfl, rfl⟩)
               have hU3 := hoU.kept (grown_set x2 g 0 (.slice (some ⟨bb, off, none⟩) 0 0)) (own_past hoU)
               have HU3 := Lib.hid hU3
               have HB3 : Hid (Below g w (x2.setCell ⟨g, 0, none⟩ (.slice (some ⟨bb, off, none⟩) 0 0))) := Lib.hid ((HB.out.trans (hbU.mono (Nat.le_of_lt hlt))).setCell (p := ⟨g, 0, none⟩) (Nat.le_refl _) _)
               have HD3 : Hid (DRd (x2.setCell ⟨g, 0, none⟩ (.slice (some ⟨bb, off, none⟩) 0 0)) g (b1.drop (1 + S)) (accTo least l vs 0)) := Lib.hid (by rw [accTo_zero]; exact hD3)
               rw [hu]
               clear hoU0 hf hvs hul hu64 husp hg2 hcB2 hrow2 hD3 hU3 hoU hbU
               go_wp2
               rw [show b1.length - (1 + S) = 0 by have := hbl.out; omega, Nat.sub_self]
               go_loopw [76] (fun i z => ∃ j : Nat, j ≤ n ∧ i = .int .i64 (j : Nat) ∧ Hid (DRd z g (b1.drop (1 + S)) (accTo least l vs j)) ∧ Hid (z.ownsRow (g + 1) 61 1 (.slice aoU n capU) n (u64v vs)) ∧ Hid (Below g w z)) (fun i _ => n - (intOf i).toNat)
               case atStart => exact ⟨0, Nat.zero_le _, rfl, HD3, HU3, HB3⟩
               case round =>
                clear HD3 HU3 HB3 HB HR Hg HcB Hrow hcX d0 d1 g0 g1 c0 c1 f0 f1 cw e1 e2 e3 e4 e5 e6 e7 eM eS wwd
                obtain ⟨j, hj, rfl, hDj, hUj, hBj⟩ := hrel
                obtain ⟨z, hzz⟩ : ∃ z, z = wr := ⟨_, rfl⟩
                subst hzz
                by_cases hjn : j < n
                · have q1 : (j : Int) < (n : Int) := by omega
                  have q2 : (0 : Int) ≤ (j : Int) := by omega
                  have hjv : j < vs.length := by rw [hvn.out]; exact hjn
                  have hlj : (accTo least l vs j).length = nl + j := by rw [accTo_length _ _ _ _ (Nat.le_of_lt hjv), ← Hnl.out]
                  have hzlt := hDj.out.lt
                  obtain ⟨aoZ, capZ, aoM, capM, kg, kcB, kcapB, krow⟩ := hDj.out
                  rw [hlj] at kg krow
                  obtain ⟨k0, k1, h0, h1⟩ := two_cells kg
                  obtain ⟨_, _, hUe, hcU, -⟩ := own_u64c hUj.out
                  simp only [Value.slice.injEq, true_and] at hUe
                  obtain ⟨rfl, rfl⟩ := hUe
                  obtain ⟨bU, oU, rfl, hbUl, cU⟩ := hcU j hjn
                  obtain ⟨vj, hvj⟩ : ∃ v, v = vs.getD j 0 := ⟨_, rfl⟩
                  rw [u64c, ← hvj] at cU
                  have hvj64 : vj < 18446744073709551616 := by rw [hvj, List.getD_eq_getElem?_getD, List.getElem?_eq_getElem hjv]; exact hv64.out _ (List.getElem_mem _)
                  obtain ⟨_, _, hMe, hcM, -⟩ := own_i64 krow
                  simp only [Value.slice.injEq, true_and] at hMe
                  obtain ⟨rfl, rfl⟩ := hMe
                  obtain ⟨lj, hlj2⟩ : ∃ k, k = nl + j := ⟨_, rfl⟩
                  obtain ⟨ll, hll⟩ : ∃ k, k = lj - 1 := ⟨_, rfl⟩
                  rw [← hlj2] at hlj kg krow k1 hcM
                  obtain ⟨bM, oM, rfl, hbM, cM⟩ := hcM ll (by omega)
                  obtain ⟨la, hla⟩ : ∃ v, v = lastI (accTo least l vs j) := ⟨_, rfl⟩
                  have cM2 : (accTo least l vs j).getD ll 0 = la := by rw [hla, hll, ← hlj]; rfl
                  rw [i64c, cM2] at cM
                  have p1 : ∀ w', Grows z.drew w' → w'.cell? ⟨g, 1, none⟩ = some (.slice (some ⟨bM, oM, none⟩) lj capM) := fun w' hg => (Grows.toDrew hg).cell k1
                  have p2 : ∀ w', Grows z.drew w' → w'.cell? ⟨bM, oM + ll, none⟩ = some (.int .i64 la) := fun w' hg => (Grows.toDrew hg).cell cM
                  have q3 : (lj : Int) - 1 = (ll : Int) := by omega
                  have q4 : (ll : Int) < (lj : Int) := by omega
                  have q5 : (0 : Int) ≤ (ll : Int) := by omega
                  have q6 : IntKind.i64.wrap (ll : Int) = (ll : Int) := IntWalk.i64_in _ (by omega)
                  obtain ⟨nx, hnx⟩ : ∃ v, v = w64 (la + least + (vj : Int)) := ⟨_, rfl⟩
                  have hwn : IntKind.i64.wrap (IntKind.i64.wrap (la + least) + IntKind.i64.wrap (vj : Int)) = nx := by
                   rw [hnx, IntKind.wrap_i64, IntKind.wrap_i64, IntKind.wrap_i64]; unfold w64; omega
                  have hac : Hid (accTo least l vs (j + 1) = accTo least l vs j ++ [nx]) := Lib.hid (by rw [accTo_succ _ _ _ _ hl0 hjv, ← hvj, ← hla, ← hnx])
                  have hownA := own_below krow ((Below.refl z.heap.size z).drew.alloc (Nat.le_refl _) (.cells #[.int .i64 nx] 3))
                  have hUA := own_below hUj.out ((Below.refl z.heap.size z).drew.alloc (Nat.le_refl _) (.cells #[.int .i64 nx] 3))
                  have hsA : g + 1 ≤ (z.drew.alloc (.cells #[.int .i64 nx] 3)).heap.size := Nat.le_trans hzlt (by simp)
                  have hlj4 : lj ≤ 4032 := by omega
                  have Hlj : Hid ((accTo least l vs j).length = lj) := Lib.hid hlj
                  have Kg := Lib.hid kg; have KcB := Lib.hid kcB
                  clear hvj hlj hlj2 hll hla cM2 hnx hcM hcU kg krow kcB cM k0 k1 hjv
                  go_wp2
                  refine wp_region_linP [(0, 3), (1, 3), (2, 3), (3, 3), (4, 0), (5, 3), (6, 3), (7, 3), (8, 0), (9, 3), (10, 3), (11, 3), (12, 0), (13, 3), (14, 3), (15, 3), (16, 0), (17, 3), (18, 3), (19, 3), (20, 3), (21, 3), (22, 1), (23, 2), (24, 3), (25, 3), (26, 2)] [23, 26] (by kernel_rfl) (by kernel_rfl) (fun d _ _ _ _ h => by cases d <;> exact h) ?_
                  repeat (first
                   | (refine wpLinP_skip rfl rfl (fun K hK => ?_); go_simp; refine hK _ ?_; clear hK K)
                   | (refine wpLinP_pure (v := ?_) rfl rfl (fun w' => ?_) (fun K hK => ?_); rotate_left; (go_simp; rfl); (go_simp; refine hK _ ?_; clear hK K))
                   | (refine wpLinP_take (v := ?_) rfl rfl (fun w' hw' => ?_) (fun K hK => ?_); rotate_left; (go_simp; rfl); (go_simp; refine hK _ ?_; clear hK K)))
                  refine wpLinP_do rfl (fun K hK => ?_); go_simp; refine hK _ _ ((Grows.refl z.drew).alloc _) ?_; clear hK K
                  refine wpLinP_hard rfl (fun K hK => ?_)
                  refine step_append_all1 sl_i64' rfl (.tmp 84) (.tmp 102) rfl rfl hownA rfl (cells_one z.drew 3 (.int .i64 nx)) (fun h => by cases h) (fun _ _ => rfl) (by unfold maxLen; omega) (by omega) hsA ?_
                  intro v' y2 ho2 hgr
                  obtain ⟨aoQ, capQ, rfl, -, -⟩ := own_cells ho2
                  have hbz : Below z.heap.size z (z.drew.alloc (.cells #[.int .i64 nx] 3)) := (Below.refl _ _).drew.alloc (Nat.le_refl _) _
                  have hbY2 : Below (g + 1) (z.drew.alloc (.cells #[.int .i64 nx] 3)) y2 := (Below.refl _ _).grown hgr hsA (fun k hk => (hownA.lt k hk).1)
                  have hbZ : Below (g + 1) z y2 := (hbz.mono hzlt).trans hbY2
                  have hgZ := (hbZ.block g (Nat.lt_succ_self g)).trans Kg.out
                  have hoQ : y2.ownsRow (g + 1) 3 1 (.slice aoQ (lj + 1) capQ) (lj + 1) (i64v (accTo least l vs (j + 1))) := by
                   rw [hac.out, ← i64v_append]; exact ho2
                  have hUQ := hUA.kept hgr (own_apart hUA hownA (by decide))
                  have hcBQ := KcB.out.below (hbZ.mono (Nat.le_succ g))
                  obtain ⟨z0, z1, z2, z3⟩ := two_cells hgZ
                  have hljn : Hid ((accTo least l vs (j + 1)).length = lj + 1) := Lib.hid (by rw [hac.out, List.length_append, Hlj.out]; rfl)
                  have HDn : Hid (DRd (y2.setCell ⟨g, 1, none⟩ (.slice aoQ (lj + 1) capQ)) g (b1.drop (1 + S)) (accTo least l vs (j + 1))) := Lib.hid ⟨aoZ, capZ, aoQ, capQ, by rw [hljn.out]; exact two_set1 hgZ _, hcBQ.below ((Below.refl g _).setCell (p := ⟨g, 1, none⟩) (Nat.le_refl _) _), kcapB, by rw [hljn.out]; exact hoQ.kept (grown_set y2 g 1 _) (own_past hoQ)⟩
                  have HUn := Lib.hid (hUQ.kept (grown_set y2 g 1 (.slice aoQ (lj + 1) capQ)) (own_past hUQ))
                  have HBn : Hid (Below g w (y2.setCell ⟨g, 1, none⟩ (.slice aoQ (lj + 1) capQ))) := Lib.hid ((hBj.out.trans (hbZ.mono (Nat.le_succ g))).setCell (p := ⟨g, 1, none⟩) (Nat.le_refl _) _)
                  clear ho2 hgr hbY2 hownA hUA hgZ z0 z2 hoQ hUQ hcBQ hsA hbz hbZ
                  go_simp; refine hK _ _ ?_; clear hK K p1 p2
                  repeat (first
                   | (refine wpLinP_skip rfl rfl (fun K hK => ?_); go_simp; refine hK _ ?_; clear hK K)
                   | (refine wpLinP_pure (v := ?_) rfl rfl (fun w' => ?_) (fun K hK => ?_); rotate_left; (go_simp; rfl); (go_simp; refine hK _ ?_; clear hK K))
                   | (refine wpLinP_take (v := ?_) rfl rfl (fun w' hw' => ?_) (fun K hK => ?_); rotate_left; (go_simp; rfl); (go_simp; refine hK _ ?_; clear hK K)))
                  refine wpLinP_hard rfl (fun K hK => ?_); go_simp
                  refine hK _ _ ?_; clear hK K
                  refine wpLinP_nil ?_
                  go_wp2
                  go_roundw
                  case rel => exact ⟨j + 1, by omega, by go_num, HDn, HUn, HBn⟩
                  case measure => simp [intOf]; omega
                · have q1 : ¬ (j : Int) < (n : Int) := by omega
                  have hjn2 : Hid (j = vs.length) := Lib.hid (by rw [hvn.out]; omega)
                  have hD := hDj.out
                  rw [hjn2.out, accTo_all] at hD
                  have HD := Lib.hid hD
                  clear hD hDj hUj
                  go_wp2
                  go_ret
                  rw [hz.out, hbT.out]
                  exact ⟨rfl, HD.out, hBj.out⟩
             · have hbT : Hid (blockT least b1 l n = (b1, l, us.2)) := Lib.hid (by
                unfold blockT; rw [if_neg hbl.out.1, ← Hwd.out, if_neg Hw64.out, HpS.out, if_neg hbl.out.2, hsp.out, if_pos hu])
               obtain ⟨er2, he2⟩ : ∃ k, k = us.2 := ⟨_, rfl⟩
               rw [← he2] at hu hbT ⊢
               have h1 : ((er2 : Int) == 0) = false := by rw [beq_eq_false_iff_ne]; omega
               have h2 : (er2 : Int) ≠ 0 := by omega
               have HRf := Lib.hid (HR.out.keep hbU)
               have HBf := Lib.hid (HB.out.trans (hbU.mono (Nat.le_of_lt hlt)))
               clear hf hoU0 hbU he2 hu
               go_wp2
               go_ret
               rw [hz.out, hbT.out]
               exact ⟨rfl, HRf.out, HBf.out⟩
           · have hc21 : 1 + S ≠ capB := fun e => hc2 e.symm
             have hc22 : 1 + S < capB := by omega
             go_wp2_with fail
             refine (unpack_any (some ⟨bb, off + 1, none⟩) S (capB - 1) (n : Nat) (wd : Nat) xs _ hxl.out hx256.out (by omega) (hcX.out.mono (Nat.le_of_lt hlt))).mono ?_
             rw [husp.out]
             rintro e x2 ⟨vU, rfl, hf⟩
             have hoU0 := hf.1
             have hbU := hf.2
             by_cases hu : us.2 = 0
             · obtain ⟨vs, hvs⟩ : ∃ vs, vs = us.1 := ⟨_, rfl⟩
               have hbT : Hid (blockT least b1 l n = (b1.drop (1 + S), l ++ accs least (lastI l) vs, 0)) := Lib.hid (by
                unfold blockT; rw [if_neg hbl.out.1, ← Hwd.out, if_neg Hw64.out, HpS.out, if_neg hbl.out.2, hsp.out, if_neg (by simp [hu]), ← hvs])
               have hvn : Hid (vs.length = n) := Lib.hid (by rw [hvs]; exact hul.out hu)
               have hv64 : Hid (∀ v ∈ vs, v < 18446744073709551616) := Lib.hid (by rw [hvs]; exact hu64.out)
               rw [← hvs] at hoU0
               have hoU : x2.ownsRow (g + 1) 61 1 vU n (u64v vs) := by
                have h := own_base hoU0 (show g + 1 ≤ x.heap.size from hlt)
                rw [u64v_length, hvn.out] at h; exact h
               obtain ⟨aoU, capU, rfl, -, -⟩ := own_u64c hoU
               have hg2 := (hbU.block g hlt).trans Hg.out
               have hcB2 := HcB.out.below (hbU.mono (Nat.le_of_lt hlt))
               have hrow2 := own_below Hrow.out hbU
               obtain ⟨d0, d1, g0, g1⟩ := two_cells hg2
               have hD3 := DRd.go hg2 hcB2 hcapB hrow2 (1 + S) (by have := hbl.out; omega) (.slice (some ⟨bb, off + (1 + S), none⟩) (b1.length - (1 + S)) (capB - (1 + S))) (.inl rfl)
               have hU3 := hoU.kept (grown_set x2 g 0 (.slice (some ⟨bb, off + (1 + S), none⟩) (b1.length - (1 + S)) (capB - (1 + S)))) (own_past hoU)
               have HU3 := Lib.hid hU3
               have HB3 : Hid (Below g w (x2.setCell ⟨g, 0, none⟩ (.slice (some ⟨bb, off + (1 + S), none⟩) (b1.length - (1 + S)) (capB - (1 + S))))) := Lib.hid ((HB.out.trans (hbU.mono (Nat.le_of_lt hlt))).setCell (p := ⟨g, 0, none⟩) (Nat.le_refl _) _)
               have HD3 : Hid (DRd (x2.setCell ⟨g, 0, none⟩ (.slice (some ⟨bb, off + (1 + S), none⟩) (b1.length - (1 + S)) (capB - (1 + S)))) g (b1.drop (1 + S)) (accTo least l vs 0)) := Lib.hid (by rw [accTo_zero]; exact hD3)
               rw [hu]
               clear hoU0 hf hvs hul hu64 husp hg2 hcB2 hrow2 hD3 hU3 hoU hbU
               go_wp2
               go_loopw [76] (fun i z => ∃ j : Nat, j ≤ n ∧ i = .int .i64 (j : Nat) ∧ Hid (DRd z g (b1.drop (1 + S)) (accTo least l vs j)) ∧ Hid (z.ownsRow (g + 1) 61 1 (.slice aoU n capU) n (u64v vs)) ∧ Hid (Below g w z)) (fun i _ => n - (intOf i).toNat)
               case atStart => exact ⟨0, Nat.zero_le _, rfl, HD3, HU3, HB3⟩
               case round =>
                clear HD3 HU3 HB3 HB HR Hg HcB Hrow hcX d0 d1 g0 g1 c0 c1 f0 f1 cw e1 e2 e3 e4 e5 e6 e7 eM eS wwd
                obtain ⟨j, hj, rfl, hDj, hUj, hBj⟩ := hrel
                obtain ⟨z, hzz⟩ : ∃ z, z = wr := ⟨_, rfl⟩
                subst hzz
                by_cases hjn : j < n
                · have q1 : (j : Int) < (n : Int) := by omega
                  have q2 : (0 : Int) ≤ (j : Int) := by omega
                  have hjv : j < vs.length := by rw [hvn.out]; exact hjn
                  have hlj : (accTo least l vs j).length = nl + j := by rw [accTo_length _ _ _ _ (Nat.le_of_lt hjv), ← Hnl.out]
                  have hzlt := hDj.out.lt
                  obtain ⟨aoZ, capZ, aoM, capM, kg, kcB, kcapB, krow⟩ := hDj.out
                  rw [hlj] at kg krow
                  obtain ⟨k0, k1, h0, h1⟩ := two_cells kg
                  obtain ⟨_, _, hUe, hcU, -⟩ := own_u64c hUj.out
                  simp only [Value.slice.injEq, true_and] at hUe
                  obtain ⟨rfl, rfl⟩ := hUe
                  obtain ⟨bU, oU, rfl, hbUl, cU⟩ := hcU j hjn
                  obtain ⟨vj, hvj⟩ : ∃ v, v = vs.getD j 0 := ⟨_, rfl⟩
                  rw [u64c, ← hvj] at cU
                  have hvj64 : vj < 18446744073709551616 := by rw [hvj, List.getD_eq_getElem?_getD, List.getElem?_eq_getElem hjv]; exact hv64.out _ (List.getElem_mem _)
                  obtain ⟨_, _, hMe, hcM, -⟩ := own_i64 krow
                  simp only [Value.slice.injEq, true_and] at hMe
                  obtain ⟨rfl, rfl⟩ := hMe
                  obtain ⟨lj, hlj2⟩ : ∃ k, k = nl + j := ⟨_, rfl⟩
                  obtain ⟨ll, hll⟩ : ∃ k, k = lj - 1 := ⟨_, rfl⟩
                  rw [← hlj2] at hlj kg krow k1 hcM
                  obtain ⟨bM, oM, rfl, hbM, cM⟩ := hcM ll (by omega)
                  obtain ⟨la, hla⟩ : ∃ v, v = lastI (accTo least l vs j) := ⟨_, rfl⟩
                  have cM2 : (accTo least l vs j).getD ll 0 = la := by rw [hla, hll, ← hlj]; rfl
                  rw [i64c, cM2] at cM
                  have p1 : ∀ w', Grows z.drew w' → w'.cell? ⟨g, 1, none⟩ = some (.slice (some ⟨bM, oM, none⟩) lj capM) := fun w' hg => (Grows.toDrew hg).cell k1
                  have p2 : ∀ w', Grows z.drew w' → w'.cell? ⟨bM, oM + ll, none⟩ = some (.int .i64 la) := fun w' hg => (Grows.toDrew hg).cell cM
                  have q3 : (lj : Int) - 1 = (ll : Int) := by omega
                  have q4 : (ll : Int) < (lj : Int) := by omega
                  have q5 : (0 : Int) ≤ (ll : Int) := by omega
                  have q6 : IntKind.i64.wrap (ll : Int) = (ll : Int) := IntWalk.i64_in _ (by omega)
                  obtain ⟨nx, hnx⟩ : ∃ v, v = w64 (la + least + (vj : Int)) := ⟨_, rfl⟩
                  have hwn : IntKind.i64.wrap (IntKind.i64.wrap (la + least) + IntKind.i64.wrap (vj : Int)) = nx := by
                   rw [hnx, IntKind.wrap_i64, IntKind.wrap_i64, IntKind.wrap_i64]; unfold w64; omega
                  have hac : Hid (accTo least l vs (j + 1) = accTo least l vs j ++ [nx]) := Lib.hid (by rw [accTo_succ _ _ _ _ hl0 hjv, ← hvj, ← hla, ← hnx])
                  have hownA := own_below krow ((Below.refl z.heap.size z).drew.alloc (Nat.le_refl _) (.cells #[.int .i64 nx] 3))
                  have hUA := own_below hUj.out ((Below.refl z.heap.size z).drew.alloc (Nat.le_refl _) (.cells #[.int .i64 nx] 3))
                  have hsA : g + 1 ≤ (z.drew.alloc (.cells #[.int .i64 nx] 3)).heap.size := Nat.le_trans hzlt (by simp)
                  have hlj4 : lj ≤ 4032 := by omega
                  have Hlj : Hid ((accTo least l vs j).length = lj) := Lib.hid hlj
                  have Kg := Lib.hid kg; have KcB := Lib.hid kcB
                  clear hvj hlj hlj2 hll hla cM2 hnx hcM hcU kg krow kcB cM k0 k1 hjv
                  go_wp2
                  refine wp_region_linP [(0, 3), (1, 3), (2, 3), (3, 3), (4, 0), (5, 3), (6, 3), (7, 3), (8, 0), (9, 3), (10, 3), (11, 3), (12, 0), (13, 3), (14, 3), (15, 3), (16, 0), (17, 3), (18, 3), (19, 3), (20, 3), (21, 3), (22, 1), (23, 2), (24, 3), (25, 3), (26, 2)] [23, 26] (by kernel_rfl) (by kernel_rfl) (fun d _ _ _ _ h => by cases d <;> exact h) ?_
                  repeat (first
                   | (refine wpLinP_skip rfl rfl (fun K hK => ?_); go_simp; refine hK _ ?_; clear hK K)
                   | (refine wpLinP_pure (v := ?_) rfl rfl (fun w' => ?_) (fun K hK => ?_); rotate_left; (go_simp; rfl); (go_simp; refine hK _ ?_; clear hK K))
                   | (refine wpLinP_take (v := ?_) rfl rfl (fun w' hw' => ?_) (fun K hK => ?_); rotate_left; (go_simp; rfl); (go_simp; refine hK _ ?_; clear hK K)))
                  refine wpLinP_do rfl (fun K hK => ?_); go_simp; refine hK _ _ ((Grows.refl z.drew).alloc _) ?_; clear hK K
                  refine wpLinP_hard rfl (fun K hK => ?_)
                  refine step_append_all1 sl_i64' rfl (.tmp 84) (.tmp 102) rfl rfl hownA rfl (cells_one z.drew 3 (.int .i64 nx)) (fun h => by cases h) (fun _ _ => rfl) (by unfold maxLen; omega) (by omega) hsA ?_
                  intro v' y2 ho2 hgr
                  obtain ⟨aoQ, capQ, rfl, -, -⟩ := own_cells ho2
                  have hbz : Below z.heap.size z (z.drew.alloc (.cells #[.int .i64 nx] 3)) := (Below.refl _ _).drew.alloc (Nat.le_refl _) _
                  have hbY2 : Below (g + 1) (z.drew.alloc (.cells #[.int .i64 nx] 3)) y2 := (Below.refl _ _).grown hgr hsA (fun k hk => (hownA.lt k hk).1)
                  have hbZ : Below (g + 1) z y2 := (hbz.mono hzlt).trans hbY2
                  have hgZ := (hbZ.block g (Nat.lt_succ_self g)).trans Kg.out
                  have hoQ : y2.ownsRow (g + 1) 3 1 (.slice aoQ (lj + 1) capQ) (lj + 1) (i64v (accTo least l vs (j + 1))) := by
                   rw [hac.out, ← i64v_append]; exact ho2
                  have hUQ := hUA.kept hgr (own_apart hUA hownA (by decide))
                  have hcBQ := KcB.out.below (hbZ.mono (Nat.le_succ g))
                  obtain ⟨z0, z1, z2, z3⟩ := two_cells hgZ
                  have hljn : Hid ((accTo least l vs (j + 1)).length = lj + 1) := Lib.hid (by rw [hac.out, List.length_append, Hlj.out]; rfl)
                  have HDn : Hid (DRd (y2.setCell ⟨g, 1, none⟩ (.slice aoQ (lj + 1) capQ)) g (b1.drop (1 + S)) (accTo least l vs (j + 1))) := Lib.hid ⟨aoZ, capZ, aoQ, capQ, by rw [hljn.out]; exact two_set1 hgZ _, hcBQ.below ((Below.refl g _).setCell (p := ⟨g, 1, none⟩) (Nat.le_refl _) _), kcapB, by rw [hljn.out]; exact hoQ.kept (grown_set y2 g 1 _) (own_past hoQ)⟩
                  have HUn := Lib.hid (hUQ.kept (grown_set y2 g 1 (.slice aoQ (lj + 1) capQ)) (own_past hUQ))
                  have HBn : Hid (Below g w (y2.setCell ⟨g, 1, none⟩ (.slice aoQ (lj + 1) capQ))) := Lib.hid ((hBj.out.trans (hbZ.mono (Nat.le_succ g))).setCell (p := ⟨g, 1, none⟩) (Nat.le_refl _) _)
                  clear ho2 hgr hbY2 hownA hUA hgZ z0 z2 hoQ hUQ hcBQ hsA hbz hbZ
                  go_simp; refine hK _ _ ?_; clear hK K p1 p2
                  repeat (first
                   | (refine wpLinP_skip rfl rfl (fun K hK => ?_); go_simp; refine hK _ ?_; clear hK K)
                   | (refine wpLinP_pure (v := ?_) rfl rfl (fun w' => ?_) (fun K hK => ?_); rotate_left; (go_simp; rfl); (go_simp; refine hK _ ?_; clear hK K))
                   | (refine wpLinP_take (v := ?_) rfl rfl (fun w' hw' => ?_) (fun K hK => ?_); rotate_left; (go_simp; rfl); (go_simp; refine hK _ ?_; clear hK K)))
                  refine wpLinP_hard rfl (fun K hK => ?_); go_simp
                  refine hK _ _ ?_; clear hK K
                  refine wpLinP_nil ?_
                  go_wp2
                  go_roundw
                  case rel => exact ⟨j + 1, by omega, by go_num, HDn, HUn, HBn⟩
                  case measure => simp [intOf]; omega
                · have q1 : ¬ (j : Int) < (n : Int) := by omega
                  have hjn2 : Hid (j = vs.length) := Lib.hid (by rw [hvn.out]; omega)
                  have hD := hDj.out
                  rw [hjn2.out, accTo_all] at hD
                  have HD := Lib.hid hD
                  clear hD hDj hUj
                  go_wp2
                  go_ret
                  rw [hz.out, hbT.out]
                  exact ⟨rfl, HD.out, hBj.out⟩
             · have hbT : Hid (blockT least b1 l n = (b1, l, us.2)) := Lib.hid (by
                unfold blockT; rw [if_neg hbl.out.1, ← Hwd.out, if_neg Hw64.out, HpS.out, if_neg hbl.out.2, hsp.out, if_pos hu])
               obtain ⟨er2, he2⟩ : ∃ k, k = us.2 := ⟨_, rfl⟩
               rw [← he2] at hu hbT ⊢
               have h1 : ((er2 : Int) == 0) = false := by rw [beq_eq_false_iff_ne]; omega
               have h2 : (er2 : Int) ≠ 0 := by omega
               have HRf := Lib.hid (HR.out.keep hbU)
               have HBf := Lib.hid (HB.out.trans (hbU.mono (Nat.le_of_lt hlt)))
               clear hf hoU0 hbU he2 hu
               go_wp2
               go_ret
               rw [hz.out, hbT.out]
               exact ⟨rfl, HRf.out, HBf.out⟩
 · have hz : Hid (blockR b l n = (b1, l, er)) := Lib.hid (by unfold blockR; rw [← her, ← hb1, if_pos h0])
   have h1 : ((er : Int) == 0) = false := by rw [beq_eq_false_iff_ne]; omega
   have h2 : (er : Int) ≠ 0 := by omega
   clear hle hb1 her h h256 hL
   go_enter Tryz.func99, Tryz.ntmps99
   go_wp2_with fail
   refine HZ.out.mono ?_
   rintro e x ⟨rfl, hR, hB0⟩
   have hB : Below g w x := But.below (Below.refl g w) hB0 (Nat.le_refl _) (Nat.le_of_lt hwlt)
   clear hB0
   go_wp2
   go_ret
   rw [hz.out]
   exact ⟨rfl, hR, hB⟩
end Go.Proofs.YtebmbkbnngeabaaGreat
