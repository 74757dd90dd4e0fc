/- Chapter 18's law: the walks over within, known, Part. -/
import Derived.Test.YtebmbkbnngeabaaGreatPgEn
import Derived.Test.YtebmbkbnngeabaaGreatPgDc
import Derived.Test.YtebmbkbnngeabaaGreatPgN
set_option linter.unusedSimpArgs false
namespace Go.Proofs.YtebmbkbnngeabaaGreat
open Go.RowKit
set_option linter.unusedVariables false
set_option maxHeartbeats 400000 in
theorem within18_any (a b : Int) (w : World) (hb : 0 < b) (hb2 : b ≤ 9000000) (ha : -9223372036854775808 ≤ a) (ha2 : a ≤ 9223372036854775807):
 Calls Tryz.prog 7 #[.int .i64 a, .int .i64 b] w fun e w' => e = .returned (.int .i64 (a % b)) ∧ w = w' := by
 by_cases h0 : 0 ≤ a
 · have h1 : a.tmod b = a % b := Int.tmod_eq_emod_of_nonneg h0
   have h2 : 0 ≤ a % b := Int.emod_nonneg _ (by omega)
   go_enter Tryz.func7, Tryz.ntmps7
   go_wp2
   go_ret
   exact ⟨rfl, rfl⟩
 · by_cases hd : a % b = 0
   · have h1 : a.tmod b = 0 := Int.tmod_eq_zero_of_dvd (Int.dvd_of_emod_eq_zero hd)
     have Hd := Lib.hid hd; clear hd
     go_enter Tryz.func7, Tryz.ntmps7
     go_wp2
     go_ret
     rw [Hd.out]; exact ⟨rfl, rfl⟩
   · have h1 : a.tmod b = a % b - b := by
      rw [Int.tmod_eq_emod]
      rw [if_neg (by rintro (h | h); exact h0 h; exact hd (Int.emod_eq_zero_of_dvd h))]
      omega
     have h2 : a % b < b := Int.emod_lt_of_pos _ hb
     have h3 : 0 ≤ a % b := Int.emod_nonneg _ (by omega)
     go_enter Tryz.func7, Tryz.ntmps7
     go_wp2
     go_ret
     exact ⟨rfl, rfl⟩
set_option maxHeartbeats 1000000 in
set_option maxRecDepth 100000 in
theorem known18_any (w : World) : Calls Tryz.prog 4 #[] w (SaysTrue w) := by
 have hD : Calls Tryz.prog 9 #[.agg #[.int .i64 0, .int .i64 0, .int .i64 0, .int .i64 1], .agg #[.int .i64 0, .int .i64 0, .int .i64 0, .int .i64 0, .int .i64 0, .int .i64 0, .int .u32 0], .slice none 0 0, .slice none 0 0] w (GaveCol w (pgBad 10)) := by
  have h := pdecode_any ⟨0, 0, 0, 1⟩ ⟨0, 0, 0, 0, 0, 0, 0⟩ none 0 0 [] none 0 0 [] w (by decide) (by decide) (by decide) ⟨⟨by decide, by decide⟩, ⟨by decide, by decide⟩, ⟨by decide, by decide⟩, ⟨by decide, by decide⟩, ⟨by decide, by decide⟩, ⟨by decide, by decide⟩, by decide⟩
   rfl (fun i hi => absurd hi (Nat.not_lt_zero _)) (fun _ => rfl) (Nat.le_refl _) (fun x hx => absurd hx List.not_mem_nil) (by decide) rfl (by decide) (fun i hi => absurd hi (by simp))
  have e : pgDec 0 0 1 ⟨0, 0, 0, 0, 0, 0, 0⟩ [] [] = pgBad 10 := by
   unfold pgDec
   rw [if_neg (fun h => by have := h.1; simp at this)]
  rw [show pgDec (⟨0, 0, 0, 1⟩ : Lf).r (⟨0, 0, 0, 1⟩ : Lf).d (⟨0, 0, 0, 1⟩ : Lf).kind ⟨0, 0, 0, 0, 0, 0, 0⟩ [] [] = pgBad 10 from e] at h
  exact h
 have HD := Lib.hid hD
 clear hD
 go_enter Tryz.func4, Tryz.ntmps4
 go_wp2_with fail
 refine HD.out.mono ?_
 rintro e x ⟨⟨aoR, nR, cR, aoD, nD, cD, aoV, nV, cV⟩, rfl, hcol, hsz, -, hb⟩
 have HB := Lib.hid hb
 unfold ColV.v
 clear hcol hsz hb HD
 go_wp2
 go_ret
 exact ⟨rfl, balloc HB.out _⟩
theorem four_frz {w : World} {g T : Nat} {a b c d : Value} (hg : w.heap[g]? = some (.cells #[a, b, c, d] T)) (j : Nat) : w.frozen? ⟨g, j, none⟩ = false := by simp [World.frozen?, hg]
theorem four_setT {w : World} {g T : Nat} {a b c d : Value} (hg : w.heap[g]? = some (.cells #[a, b, c, d] T)) (a' b' c' d' : Value) :
 ((((w.setCell ⟨g, 0, none⟩ a').setCell ⟨g, 1, none⟩ b').setCell ⟨g, 2, none⟩ c').setCell ⟨g, 3, none⟩ d').heap[g]? = some (.cells #[a', b', c', d'] T) := by
 simp only [World.setCell, Array.getElem?_modify, hg]; simp
structure But2 (g : Nat) (a b : World) : Prop where
 size : a.heap.size ≤ b.heap.size
 block : ∀ j, j < a.heap.size → j ≠ g → j ≠ g + 1 → b.heap[j]? = a.heap[j]?
theorem But2.pre (g : Nat) : Pre (But2 g) := ⟨fun _ => ⟨Nat.le_refl _, fun _ _ _ _ => rfl⟩, fun h k => ⟨Nat.le_trans h.size k.size, fun j hj h1 h2 => (k.block j (Nat.lt_of_lt_of_le hj h.size) h1 h2).trans (h.block j hj h1 h2)⟩⟩
theorem But2.cell {g : Nat} {a b : World} (h : But2 g a b) {ad : Addr} {v : Value} (h1 : ad.block ≠ g) (h2 : ad.block ≠ g + 1) (hc : a.cell? ad = some v) : b.cell? ad = some v := by
 rw [World.cell?_of_block (h.block ad.block (World.block_lt_of_cell? a ad hc) h1 h2)]; exact hc
theorem But2.ofBut0 {g : Nat} {a b : World} (h : But g a b) : But2 g a b := ⟨h.size, fun j hj h1 _ => h.block j hj h1⟩
theorem But2.ofBut1 {g : Nat} {a b : World} (h : But (g + 1) a b) : But2 g a b := ⟨h.size, fun j hj _ h2 => h.block j hj h2⟩
theorem But.four {g : Nat} (w : World) (a b c d : Value) : But g w ((((w.setCell ⟨g, 0, none⟩ a).setCell ⟨g, 1, none⟩ b).setCell ⟨g, 2, none⟩ c).setCell ⟨g, 3, none⟩ d) := ((((But.refl g w).setCell 0 a).setCell 1 b).setCell 2 c).setCell 3 d
theorem But.three {g : Nat} (w : World) (a b c : Value) : But g w (((w.setCell ⟨g, 0, none⟩ a).setCell ⟨g, 1, none⟩ b).setCell ⟨g, 2, none⟩ c) := (((But.refl g w).setCell 0 a).setCell 1 b).setCell 2 c
def GavePart (w : World) (e : Ending) (w' : World) : Prop :=
 ∃ (lf : Lf) (c : Cd) (N m capW : Nat) (aoW : Option Addr) (ws : List Vl), e = .returned (.tuple #[lfA lf, .agg #[.slice c.aoR c.N c.cR, .slice c.aoD c.N c.cD, .slice c.aoV c.M c.cV], .int .i64 (N : Nat), .slice aoW m capW]) ∧ N ≤ 16 ∧
  (N ≠ 0 → Hid (LfOk lf) ∧ Hid (ColIn w' c) ∧ Hid (ws.length = m) ∧ m ≤ 256 ∧ m ≤ capW ∧ Hid (CellsAt w' w'.heap.size aoW (m * 2) (vlc ws)) ∧ Hid (∀ a, aoW = some a → w.heap.size ≤ a.block)) ∧ Hid (Below w.heap.size w w')
set_option maxHeartbeats 8000000 in
set_option maxRecDepth 100000 in
theorem part18_any (a0 : Option Addr) (len0 cap0 : Nat) (ns : List Int) (aoR : Option Addr) (lenR capR : Nat) (which : Int) (w : World) (hl : ns.length = len0) (hlen : len0 ≤ 9223372036854775807) (hin : ∀ x ∈ ns, -9223372036854775808 ≤ x ∧ x ≤ 9223372036854775807) (hc : CellsAt w w.heap.size a0 len0 (i64c ns))
 (hR : RowsAt w aoR lenR) (hlenR : lenR ≤ 9223372036854775807) (hw1 : -9223372036854775808 ≤ which) (hw2 : which ≤ 9223372036854775807) :
 Calls Tryz.prog 5 #[.slice a0 len0 cap0, .slice aoR lenR capR, .int .i64 which] w (GavePart w) := by
 obtain ⟨w1, hw⟩ : ∃ x, x = (w.alloc (.cells #[.int .i64 0, .int .i64 0, .int .i64 0, .int .i64 0] 30)).alloc (.cells #[.slice none 0 0, .slice none 0 0, .slice none 0 0] 33) := ⟨_, rfl⟩
 have hb1 : Below w.heap.size w w1 := by rw [hw]; exact balloc (balloc (Below.refl _ _) _) _
 obtain ⟨g, hg⟩ : ∃ g, g = w.heap.size := ⟨_, rfl⟩
 have hk1 : w1.heap[g]? = some (.cells #[.int .i64 0, .int .i64 0, .int .i64 0, .int .i64 0] 30) := by rw [hg, hw, heap_alloc_old _ _ (by simp)]; exact heap_alloc_new w _
 have hk2 : w1.heap[g + 1]? = some (.cells #[.slice none 0 0, .slice none 0 0, .slice none 0 0] 33) := by
  have := heap_alloc_new (w.alloc (.cells #[.int .i64 0, .int .i64 0, .int .i64 0, .int .i64 0] 30)) (.cells #[.slice none 0 0, .slice none 0 0, .slice none 0 0] 33)
  rw [hg, hw]; simpa using this
 have hg1 : g + 1 < w1.heap.size := (Array.getElem?_eq_some_iff.1 hk2).1
 have HM := Lib.hid (make5_any a0 len0 cap0 ns w1 hl hlen hin (hc.at hb1))
 have HR := Lib.hid hR; have Hb1 := Lib.hid hb1; have Hk1 := Lib.hid hk1; have Hk2 := Lib.hid hk2; have Hg := Lib.hid hg
 clear hl hin hc hR hb1 hk1 hk2
 go_enter Tryz.func5, Tryz.ntmps5
 go_upto_region 1 with fail
 rw [← hw, ← hg]
 clear hw hg
 go_wp2_with fail
 refine HM.out.mono ?_
 rintro e x ⟨aoS, n, capS, F, P, dep, anc, rfl, HF, HS, hcS, hbx⟩
 have HcS := Lib.hid hcS; have Hbx := Lib.hid hbx
 have hxs : g + 1 < x.heap.size := Nat.lt_of_lt_of_le hg1 hbx.size
 have Hwx := Lib.hid (bmore Hb1.out hbx)
 have hR1 : RowsAt x aoR lenR := fun i hi => by
  obtain ⟨b, off, a, m, c, ns, he, hb, hcl, h1, h2, h3, h4⟩ := HR.out i hi
  exact ⟨b, off, a, m, c, ns, he, Nat.lt_of_lt_of_le hb Hwx.out.size, (Hwx.out.cell (by exact hb)).trans hcl, h1, h2, h3, h4.at Hwx.out⟩
 have HMa := Lib.hid (many8_any F P dep anc HS.out aoS n capS aoR lenR capR x HF.out hcS hR1 hlenR)
 clear hcS hbx hR1 HM
 go_wp2_with fail
 refine HMa.out.mono ?_
 rintro e y ⟨aoT, capT, rfl, HT, HBy⟩
 obtain ⟨N, hN⟩ : ∃ N, N = min lenR 16 := ⟨_, rfl⟩
 rw [← hN] at HT ⊢
 have hN16 : N ≤ 16 := by omega
 have HCo := Lib.hid (columns14_any F P dep anc HS.out aoS n capS aoT N capT _ y HF.out (HcS.out.at HBy.out) hN16 HT.out)
 clear hN HMa
 go_wp2_with fail
 refine HCo.out.mono ?_
 rintro e z ⟨aoC, mC, capC, cs, rfl, HmC, Hcs, hcC, HCs, HCl, HlC, HBz⟩
 have HcC := Lib.hid hcC
 have hb3 := bmore HBy.out HBz.out
 have HLv := Lib.hid (leaves5_any F P dep anc HS.out aoS n capS z HF.out (HcS.out.at hb3))
 clear hcC hb3 HCo
 go_wp2_with fail
 refine HLv.out.mono ?_
 rintro e u ⟨aoL, capL, L, rfl, HL, HLo, hcL, hlL, hbu⟩
 obtain ⟨mL, hmL⟩ : ∃ mL, mL = nLf F n := ⟨_, rfl⟩
 have hmm : mC = mL := by rw [HmC.out, hmL]
 rw [← hmL] at HL hcL ⊢
 have hmL14 : mL ≤ 14 := by rw [hmL]; have := nLf_le F n; have := HS.out.small; have := HF.out; omega
 have hmL0 : 0 < mL := by
  have hp := HS.out.pos
  rw [HF.out] at hp
  have h1 := nLf_lt F (i := n - 1) (j := n) (by have := HS.out.last; rw [HF.out] at this; exact this) (by omega)
  omega
 clear hmL HmC
 subst hmm
 obtain ⟨q, hq, hqm⟩ := modN' which mC hmL0
 have Hq : Hid (which % (mC : Int) = (q : Int)) := Lib.hid hq
 have HcL := Lib.hid hcL; have Hbu := Lib.hid hbu
 have HcC2 := Lib.hid (HcC.out.at hbu)
 have hcolI : ColIn z (cs.getD q cd0) := HCs.out _ (by rw [List.getD_eq_getElem?_getD, List.getElem?_eq_getElem (by rw [Hcs.out]; exact hqm)]; exact List.getElem_mem _)
 have hcolL : ColLo y.heap.size (cs.getD q cd0) := HCl.out _ (by rw [List.getD_eq_getElem?_getD, List.getElem?_eq_getElem (by rw [Hcs.out]; exact hqm)]; exact List.getElem_mem _)
 obtain ⟨c, hcE⟩ : ∃ c, c = cs.getD q cd0 := ⟨_, rfl⟩
 obtain ⟨lf, hlE⟩ : ∃ lf, lf = L.getD q lf0 := ⟨_, rfl⟩
 have hlok : LfOk lf := by
  rw [hlE]
  exact HLo.out _ (by rw [List.getD_eq_getElem?_getD, List.getElem?_eq_getElem (by rw [HL.out]; exact hqm)]; exact List.getElem_mem _)
 rw [← hcE] at hcolI hcolL
 obtain ⟨bC, oC, hCe, hbC, hCc⟩ := HcC2.out.wide cdV_length (by decide) Hcs.out hqm cd0
 obtain ⟨bL, oL, hLe, hbL, hLc⟩ := HcL.out.wide lfV_length (by decide) HL.out hqm lf0
 rw [← hcE] at hCc
 rw [← hlE] at hLc
 have x0 := hCc 0 (by decide); have x1 := hCc 1 (by decide); have x2 := hCc 2 (by decide)
 have y0 := hLc 0 (by decide); have y1 := hLc 1 (by decide); have y2 := hLc 2 (by decide); have y3 := hLc 3 (by decide)
 simp only [cdV, lfV, List.getD_cons_zero, List.getD_cons_succ, Nat.add_zero] at x0 x1 x2 y0 y1 y2 y3
 rw [← Nat.add_assoc] at x1 x2 y1 y2 y3
 subst hCe; subst hLe
 have hbCg : bC ≠ g ∧ bC ≠ g + 1 := by have h1 : y.heap.size ≤ bC := HlC.out ⟨bC, oC, none⟩ rfl; have h2 := HBy.out.size; omega
 have hbLg : bL ≠ g ∧ bL ≠ g + 1 := by have h1 : z.heap.size ≤ bL := hlL ⟨bL, oL, none⟩ rfl; have h2 := HBy.out.size; have h3 := HBz.out.size; omega
 have hyu : Below w1.heap.size w1 u := bmore Hbx.out (bmore (bmore HBy.out HBz.out) hbu)
 have hk1u := (hyu.block g (by omega)).trans Hk1.out
 have hk2u := (hyu.block (g + 1) hg1).trans Hk2.out
 have hgu : g + 1 < u.heap.size := (Array.getElem?_eq_some_iff.1 hk2u).1
 have HcLo : Hid (ColLo (g + 2) c) := Lib.hid (hcolL.mono (by have h2 := HBy.out.size; omega))
 have Hlok := Lib.hid hlok; have Hcol := Lib.hid (hcolI.at hbu)
 have hNc := hcolI.n
 have hMc : c.M ≤ 4000 := Nat.le_trans hcolI.ok.le hcolI.n
 have e1 : (0 : Int) ≤ (q : Int) := by omega
 have e2 : (q : Int) < (mC : Int) := by omega
 have HBu := Lib.hid (bmore Hwx.out (bmore (bmore HBy.out HBz.out) hbu))
 have HBd := Lib.hid (rbuild_in c.aoV c.M c.cV c.V 256 u hcolI.ok.lV (by omega) (hcolI.v.at hbu) (Nat.le_refl _))
 clear hq hcE hlE hlok hcolI hcolL HCl hCc hLc hcL hbu HCs Hcs HcC HcC2 HcL HL HLo HLv HT HBy HBz Hwx
 go_wp2_with fail
 refine (within18_any which mC _ (by omega) (by omega) hw1 hw2).mono ?_
 rw [Hq.out]
 rintro e u' ⟨rfl, rfl⟩
 go_wp2_with fail
 refine HBd.out.mono ?_
 rintro e v (⟨hwl, v1, v2, rfl, ho1, ho2, hbv⟩ | ⟨hwl, rfl, hbv⟩)
 · obtain ⟨aoW, capW, rfl, hlw, hcapw, hcw, hzw, hlow⟩ := own_v ho1
   obtain ⟨mW, hmW⟩ : ∃ mW, mW = (dWords c.V).length := ⟨_, rfl⟩
   rw [← hmW] at hcapw hcw hwl ho1 ⊢
   have hB1 := HBu.out.trans (hbv.mono HBu.out.size)
   have HB1 := Lib.hid hB1
   have hugw : w.heap.size ≤ u.heap.size := HBu.out.size
   have hk1 := (hbv.block g (by omega)).trans hk1u
   have hk2 := (hbv.block (g + 1) (by omega)).trans hk2u
   have x0 := (hbv.cell (by exact hbC)).trans x0
   have x1 := (hbv.cell (by exact hbC)).trans x1
   have x2 := (hbv.cell (by exact hbC)).trans x2
   have y0 := (hbv.cell (by exact hbL)).trans y0
   have y1 := (hbv.cell (by exact hbL)).trans y1
   have y2 := (hbv.cell (by exact hbL)).trans y2
   have y3 := (hbv.cell (by exact hbL)).trans y3
   have HcW := Lib.hid hcw; have HlW : Hid (∀ a, aoW = some a → u.heap.size ≤ a.block) := Lib.hid hlow
   have HmW : Hid ((dWords c.V).length = mW) := Lib.hid hmW.symm; have Hcolv := Lib.hid (Hcol.out.at hbv)
   clear hmW
   have hgv : g + 1 < v.heap.size := (Array.getElem?_eq_some_iff.1 hk2).1
   obtain ⟨t0, t1, t2, t3⟩ := four_lf hk1
   have s0 := four_frz hk1 0; have s1 := four_frz hk1 1; have s2 := four_frz hk1 2; have s3 := four_frz hk1 3
   have hfl := four_setT hk1 (.int .i64 (lf.field : Nat)) (.int .i64 (lf.r : Nat)) (.int .i64 (lf.d : Nat)) (.int .i64 (lf.kind : Nat))
   have hx4 := But.four (g := g) v (.int .i64 (lf.field : Nat)) (.int .i64 (lf.r : Nat)) (.int .i64 (lf.d : Nat)) (.int .i64 (lf.kind : Nat))
   obtain ⟨z1, hz1⟩ : ∃ z1, z1 = (((v.setCell ⟨g, 0, none⟩ (.int .i64 (lf.field : Nat))).setCell ⟨g, 1, none⟩ (.int .i64 (lf.r : Nat))).setCell ⟨g, 2, none⟩ (.int .i64 (lf.d : Nat))).setCell ⟨g, 3, none⟩ (.int .i64 (lf.kind : Nat)) := ⟨_, rfl⟩
   rw [← hz1] at hfl hx4
   have hk2z : z1.heap[g + 1]? = some (.cells #[.slice none 0 0, .slice none 0 0, .slice none 0 0] 33) := (hx4.block (g + 1) hgv (by omega)).trans hk2
   obtain ⟨r0, r1, r2, p0, p1, p2⟩ := three_cellsT hk2z
   have hfc := three_setT hk2z (.slice c.aoR c.N c.cR) (.slice c.aoD c.N c.cD) (.slice c.aoV c.M c.cV)
   have hx3 := But.three (g := g + 1) z1 (.slice c.aoR c.N c.cR) (.slice c.aoD c.N c.cD) (.slice c.aoV c.M c.cV)
   obtain ⟨z2, hz2⟩ : ∃ z2, z2 = ((z1.setCell ⟨g + 1, 0, none⟩ (.slice c.aoR c.N c.cR)).setCell ⟨g + 1, 1, none⟩ (.slice c.aoD c.N c.cD)).setCell ⟨g + 1, 2, none⟩ (.slice c.aoV c.M c.cV) := ⟨_, rfl⟩
   rw [← hz2] at hfc hx3
   have hfl2 := (hx3.block g (Array.getElem?_eq_some_iff.1 hfl).1 (by omega)).trans hfl
   have hbz : Below w.heap.size w z2 := But.below (But.below HB1.out hx4 (by have := Hg.out; omega) HB1.out.size) hx3 (by have := Hg.out; omega) (But.below HB1.out hx4 (by have := Hg.out; omega) HB1.out.size).size
   have Hfl := Lib.hid hfl2; have Hfc := Lib.hid hfc; have Hbz := Lib.hid hbz; have Hx4 := Lib.hid hx4; have Hx3 := Lib.hid hx3
   have Hz1 := Lib.hid hz1; have Hz2 := Lib.hid hz2
   have px0 : ∀ w', But2 g v.drew w' → w'.cell? ⟨bC, oC + q * 3, none⟩ = some (.slice c.aoR c.N c.cR) := fun w' hg => But2.cell hg hbCg.1 hbCg.2 x0
   have px1 : ∀ w', But2 g v.drew w' → w'.cell? ⟨bC, oC + q * 3 + 1, none⟩ = some (.slice c.aoD c.N c.cD) := fun w' hg => But2.cell hg hbCg.1 hbCg.2 x1
   have px2 : ∀ w', But2 g v.drew w' → w'.cell? ⟨bC, oC + q * 3 + 2, none⟩ = some (.slice c.aoV c.M c.cV) := fun w' hg => But2.cell hg hbCg.1 hbCg.2 x2
   have py0 : ∀ w', But2 g v.drew w' → w'.cell? ⟨bL, oL + q * 4, none⟩ = some (.int .i64 (lf.field : Nat)) := fun w' hg => But2.cell hg hbLg.1 hbLg.2 y0
   have py1 : ∀ w', But2 g v.drew w' → w'.cell? ⟨bL, oL + q * 4 + 1, none⟩ = some (.int .i64 (lf.r : Nat)) := fun w' hg => But2.cell hg hbLg.1 hbLg.2 y1
   have py2 : ∀ w', But2 g v.drew w' → w'.cell? ⟨bL, oL + q * 4 + 2, none⟩ = some (.int .i64 (lf.d : Nat)) := fun w' hg => But2.cell hg hbLg.1 hbLg.2 y2
   have py3 : ∀ w', But2 g v.drew w' → w'.cell? ⟨bL, oL + q * 4 + 3, none⟩ = some (.int .i64 (lf.kind : Nat)) := fun w' hg => But2.cell hg hbLg.1 hbLg.2 y3
   clear hz1 hz2 hfl hfc hfl2 hx4 hx3 hbz hk1 hk2 hk1u hk2u x0 x1 x2 y0 y1 y2 y3 hk2z ho1 ho2 hcw hlw hlow hbv hB1
   go_upto_region 9 with fail
   refine wp_region_linR (But2 g) (But2.pre g) (.take 0 (.take 1 (.take 2 (.take 3 (.take 4 (.take 5 (.take 6 (.take 7 (.take 8 (.take 9 (.take 10 (.one 11 (.one 12 (.take 13 (.take 14 (.done)))))))))))))))) [] (by kernel_rfl) (by kernel_rfl) (fun d _ _ _ _ h => by cases d <;> exact h) ?_
   iterate 11 (first
    | (refine wpLinR_take (v := ?_) rfl rfl (fun w' hw' => ?_) (fun K hK => ?_); rotate_left; (go_simp; rfl); (go_simp; refine hK _ ?_; clear hK K)))
   clear px0 px1 px2 py0 py1 py2 py3
   refine wpLinR_one rfl (fun K hK => ?_)
   go_simp
   rw [← Hz1.out]
   refine hK _ _ (.inr ⟨Hx4.out.size, (But2.ofBut0 Hx4.out).block⟩) ?_; clear hK K t0 t1 t2 t3 s0 s1 s2 s3
   refine wpLinR_one rfl (fun K hK => ?_)
   go_simp
   rw [← Hz2.out]
   refine hK _ _ (.inr ⟨Hx3.out.size, (But2.ofBut1 Hx3.out).block⟩) ?_; clear hK K r0 r1 r2 p0 p1 p2
   iterate 2 (first
    | (refine wpLinR_take (v := ?_) rfl rfl (fun w' hw' => ?_) (fun K hK => ?_); rotate_left; (go_simp; rfl); (go_simp; refine hK _ ?_; clear hK K)))
   refine wpLinR_nil ?_
   go_wp2
   obtain ⟨t0, t1, t2, t3⟩ := four_lf Hfl.out
   obtain ⟨r0, r1, r2, -⟩ := three_cellsT Hfc.out
   have hcz : ColIn z2 c := (Hcolv.out.but Hx4.out (HcLo.out.mono (by omega))).but Hx3.out HcLo.out
   have hwz : CellsAt z2 z2.heap.size aoW (mW * 2) (vlc (dWords c.V)) := (HcW.out.apart Hx4.out (fun a ha => by have := HlW.out a ha; omega)).apart Hx3.out (fun a ha => by have := HlW.out a ha; omega)
   exact bodyPost_ret (v := .tuple #[.agg #[.int .i64 (lf.field : Nat), .int .i64 (lf.r : Nat), .int .i64 (lf.d : Nat), .int .i64 (lf.kind : Nat)], .agg #[.slice c.aoR c.N c.cR, .slice c.aoD c.N c.cD, .slice c.aoV c.M c.cV], .int .i64 (N : Nat), .slice aoW mW capW]) (by simp [results, Tryz.results5, go_sem, t0, t1, t2, t3, r0, r1, r2]) rfl
    ⟨lf, c, N, mW, capW, aoW, dWords c.V, rfl, hN16, fun _ => ⟨Hlok, Lib.hid (hcz.at (Below.drew (Below.refl _ _))), HmW, hwl, hcapw, Lib.hid (hwz.at (Below.drew (Below.refl _ _))), Lib.hid (fun a ha => by have h1 := HlW.out a ha; have h2 := Hg.out; omega)⟩, Lib.hid (Below.drew Hbz.out)⟩
 · have HB1 := Lib.hid (HBu.out.trans (hbv.mono HBu.out.size))
   have hk1 := (hbv.block g (by omega)).trans hk1u
   have hk2 := (hbv.block (g + 1) (by omega)).trans hk2u
   have y0 := (hbv.cell (by exact hbL)).trans y0
   have y1 := (hbv.cell (by exact hbL)).trans y1
   have y2 := (hbv.cell (by exact hbL)).trans y2
   have y3 := (hbv.cell (by exact hbL)).trans y3
   have hgv : g + 1 < v.heap.size := (Array.getElem?_eq_some_iff.1 hk2).1
   obtain ⟨t0, t1, t2, t3⟩ := four_lf hk1
   have s0 := four_frz hk1 0; have s1 := four_frz hk1 1; have s2 := four_frz hk1 2; have s3 := four_frz hk1 3
   have hfl := four_setT hk1 (.int .i64 (lf.field : Nat)) (.int .i64 (lf.r : Nat)) (.int .i64 (lf.d : Nat)) (.int .i64 (lf.kind : Nat))
   have hx4 := But.four (g := g) v (.int .i64 (lf.field : Nat)) (.int .i64 (lf.r : Nat)) (.int .i64 (lf.d : Nat)) (.int .i64 (lf.kind : Nat))
   obtain ⟨z1, hz1⟩ : ∃ z1, z1 = (((v.setCell ⟨g, 0, none⟩ (.int .i64 (lf.field : Nat))).setCell ⟨g, 1, none⟩ (.int .i64 (lf.r : Nat))).setCell ⟨g, 2, none⟩ (.int .i64 (lf.d : Nat))).setCell ⟨g, 3, none⟩ (.int .i64 (lf.kind : Nat)) := ⟨_, rfl⟩
   rw [← hz1] at hfl hx4
   have hk2z : z1.heap[g + 1]? = some (.cells #[.slice none 0 0, .slice none 0 0, .slice none 0 0] 33) := (hx4.block (g + 1) hgv (by omega)).trans hk2
   obtain ⟨r0, r1, r2, p0, p1, p2⟩ := three_cellsT hk2z
   have hfc := three_setT hk2z (.slice none 0 0) (.slice none 0 0) (.slice none 0 0)
   have hx3 := But.three (g := g + 1) z1 (.slice none 0 0) (.slice none 0 0) (.slice none 0 0)
   have hB2 := But.below HB1.out hx4 (by have := Hg.out; omega) HB1.out.size
   have hbz := But.below hB2 hx3 (by have := Hg.out; omega) hB2.size
   have hfl2 := (hx3.block g (Array.getElem?_eq_some_iff.1 hfl).1 (by omega)).trans hfl
   have Hz1 := Lib.hid hz1; have Hfl := Lib.hid hfl2; have Hfc := Lib.hid hfc; have Hbz := Lib.hid hbz
   rw [hz1] at r0 r1 r2 p0 p1 p2
   clear hz1 hfl hfc hfl2 hx4 hx3 hbz hk1 hk2 hk1u hk2u x0 x1 x2 hk2z hbv
   go_wp2
   rw [← Hz1.out]
   clear t0 t1 t2 t3 s0 s1 s2 s3 r0 r1 r2 p0 p1 p2
   obtain ⟨t0, t1, t2, t3⟩ := four_lf Hfl.out
   obtain ⟨r0, r1, r2, -⟩ := three_cellsT Hfc.out
   exact bodyPost_ret (v := .tuple #[.agg #[.int .i64 (lf.field : Nat), .int .i64 (lf.r : Nat), .int .i64 (lf.d : Nat), .int .i64 (lf.kind : Nat)], .agg #[.slice none 0 0, .slice none 0 0, .slice none 0 0], .int .i64 0, .slice none 0 0]) (by simp [results, Tryz.results5, go_sem, t0, t1, t2, t3, r0, r1, r2]) rfl
    ⟨lf, cd0, 0, 0, 0, none, [], rfl, by omega, fun h => absurd rfl h, Hbz⟩
end Go.Proofs.YtebmbkbnngeabaaGreat
