/- Chapter 14's document: the walk over Columns. -/
import Derived.Test.YtebmbkbnngeabaaGreatPgG
set_option linter.unusedSimpArgs false
namespace Go.Proofs.YtebmbkbnngeabaaGreat
open Go.RowKit
set_option linter.unusedVariables false
structure ColIn (w : World) (c : Cd) : Prop where
 ok : OkCd c
 r : CellsAt w w.heap.size c.aoR c.N (nic c.R)
 d : CellsAt w w.heap.size c.aoD c.N (nic c.D)
 v : CellsAt w w.heap.size c.aoV (c.M * 2) (vlc c.V)
 n : c.N ≤ 4000
theorem ColIn.at {w w' : World} {c : Cd} (h : ColIn w c) (hb : Below w.heap.size w w') : ColIn w' c := ⟨h.ok, h.r.at hb, h.d.at hb, h.v.at hb, h.n⟩
def ColLo (B : Nat) (c : Cd) : Prop := (∀ a, c.aoR = some a → B ≤ a.block) ∧ (∀ a, c.aoD = some a → B ≤ a.block) ∧ ∀ a, c.aoV = some a → B ≤ a.block
theorem CellsAt.apart {w w' : World} {g n : Nat} {ao : Option Addr} {f : Nat → Value} (h : CellsAt w w.heap.size ao n f) (hb : But g w w') (hlo : ∀ a, ao = some a → g + 1 ≤ a.block) : CellsAt w' w'.heap.size ao n f := fun i hi => by
 obtain ⟨b, off, e, hl, hc⟩ := h i hi
 exact ⟨b, off, e, Nat.lt_of_lt_of_le hl hb.size, by rw [World.cell?_of_block (hb.block b hl (by have := hlo _ e; simp only at this; omega))]; exact hc⟩
theorem ColIn.but {w w' : World} {g : Nat} {c : Cd} (h : ColIn w c) (hb : But g w w') (hlo : ColLo (g + 1) c) : ColIn w' c := ⟨h.ok, h.r.apart hb hlo.1, h.d.apart hb hlo.2.1, h.v.apart hb hlo.2.2, h.n⟩
theorem ColLo.mono {B B' : Nat} {c : Cd} (h : ColLo B c) (hB : B' ≤ B) : ColLo B' c := ⟨fun a ha => Nat.le_trans hB (h.1 a ha), fun a ha => Nat.le_trans hB (h.2.1 a ha), fun a ha => Nat.le_trans hB (h.2.2 a ha)⟩
def GaveCo (F : List Fd) (n : Nat) (w : World) (e : Ending) (w' : World) : Prop :=
 ∃ (aoC : Option Addr) (m capC : Nat) (cs : List Cd), e = .returned (.tuple #[.slice aoC m capC, .int .i64 0]) ∧ Hid (m = nLf F n) ∧ Hid (cs.length = m) ∧ CellsAt w' w'.heap.size aoC (m * 3) (wc cdV cs) ∧ Hid (∀ c ∈ cs, ColIn w' c) ∧ Hid (∀ c ∈ cs, ColLo w.heap.size c) ∧ Hid (∀ a, aoC = some a → w.heap.size ≤ a.block) ∧ Hid (Below w.heap.size w w')
theorem Wk.cols {C : WkC} {w : World} {g : Nat} {cs : List Cd} (h : Wk C w g cs) (hN : ∀ c ∈ cs, c.N ≤ 4000) : CellsAt w w.heap.size C.aoC (C.m * 3) (wc cdV cs) ∧ (∀ c ∈ cs, ColIn w c ∧ ColLo (g + 1) c) ∧ ∀ a, C.aoC = some a → g + 1 ≤ a.block := by
 have hrows := h.rows
 unfold wkRows at hrows
 refine ⟨?_, fun c hc => ?_, ?_⟩
 · have hoC : w.ownsRow (g + 1) 33 3 (.slice C.aoC C.m C.capC) C.m (wcs cdV cs) := hrows.1 ⟨33, 3, .slice C.aoC C.m C.capC, C.m, wcs cdV cs⟩ (by simp)
   obtain ⟨_, _, hv, -, -, hcL, -, -⟩ := own_wide cdV_length (by decide) hoC
   simp only [Value.slice.injEq, true_and] at hv
   obtain ⟨hv, -⟩ := hv
   rw [hv]; exact hcL
 · have hok := h.ok c hc
   have hin : ∀ r ∈ [rR c, rD c, rV c], r.own w (g + 1) := fun r hr => hrows.1 r (List.mem_cons_of_mem _ (List.mem_cons_of_mem _ (List.mem_cons_of_mem _ (List.mem_flatten.2 ⟨[rR c, rD c, rV c], List.mem_map.2 ⟨c, hc, rfl⟩, hr⟩))))
   have h1 : w.ownsRow (g + 1) 3 1 (.slice c.aoR c.N c.cR) c.N (natv c.R) := hin (rR c) (by simp)
   have h2 : w.ownsRow (g + 1) 3 1 (.slice c.aoD c.N c.cD) c.N (natv c.D) := hin (rD c) (by simp)
   have h3 : w.ownsRow (g + 1) 81 2 (.slice c.aoV c.M c.cV) c.M (vcs c.V) := hin (rV c) (by simp)
   obtain ⟨_, _, hv1, -, -, hc1, -⟩ := own_nat h1
   obtain ⟨_, _, hv2, -, -, hc2, -⟩ := own_nat h2
   obtain ⟨_, _, hv3, -, -, hc3, -⟩ := own_v h3
   simp only [Value.slice.injEq, true_and] at hv1 hv2 hv3
   exact ⟨⟨hok, by rw [hv1.1]; exact hc1, by rw [hv2.1]; exact hc2, by rw [hv3.1]; exact hc3, hN c hc⟩, fun a ha => (h1.lt a.block (by rw [ha]; rfl)).1, fun a ha => (h2.lt a.block (by rw [ha]; rfl)).1, fun a ha => (h3.lt a.block (by rw [ha]; rfl)).1⟩
 · have hoC : w.ownsRow (g + 1) 33 3 (.slice C.aoC C.m C.capC) C.m (wcs cdV cs) := hrows.1 ⟨33, 3, .slice C.aoC C.m C.capC, C.m, wcs cdV cs⟩ (by simp)
   obtain ⟨_, _, hv, -, -, -, -, hlow⟩ := own_wide cdV_length (by decide) hoC
   simp only [Value.slice.injEq, true_and] at hv
   intro a ha
   exact (hlow a (by rw [← hv.1]; exact ha)).1
theorem rep_N (m q : Nat) : ((List.replicate m cd0).getD q cd0).N = 0 := by
 rw [List.getD_eq_getElem?_getD]
 by_cases h : q < m
 · rw [List.getElem?_eq_getElem (by simpa using h)]; simp [cd0]
 · rw [List.getElem?_eq_none (by simpa using h)]; rfl
theorem grew_all {C : WkC} {dep : Nat → Nat} {anc : Nat → Nat → Nat} (hC : WkOk C dep anc) {w : World} {g : Nat} {cs : List Cd} (h : Wk C w g cs) {B : Nat} (hG : Grew C (fun _ => B) (List.replicate C.m cd0) cs) : ∀ k, k < C.m → (cs.getD k cd0).N ≤ B := fun k hk => by
 obtain ⟨i, h1, h2, h3⟩ := nLf_onto C.F k C.n (by rw [← hC.m]; exact hk)
 have := hG i h1 h2
 rw [h3, rep_N] at this
 simpa using this
set_option maxHeartbeats 8000000 in
set_option maxRecDepth 100000 in
theorem columns14_any (F : List Fd) (P dep : Nat → Nat) (anc : Nat → Nat → Nat) (hS : FinS F P dep anc) (aoS : Option Addr) (n capS : Nat) (aoT : Option Addr) (len capT : Nat) (S : Nat → Prop) (w : World) (hl : F.length = n) (hc : CellsAt w w.heap.size aoS (n * 4) (wc fdV F))
 (hlen : len ≤ 16) (hT : ListAt w S (fun t => TreeAt F P n w S n 0 t) aoT len) :
 Calls Tryz.prog 14 #[.slice aoS n capS, .slice aoT len capT] w (GaveCo F n w) := by
 have hT2 : ListAt w (fun b => b < w.heap.size) (fun t => TreeAt F P n w (fun b => b < w.heap.size) n 0 t) aoT len := hT.mono (fun b hb _ => hb) (fun t => TreeAt.mono (fun b hb _ => hb) n 0 t)
 have HT := Lib.hid hT2; have HS := Lib.hid hS; have Hl := Lib.hid hl; have Hc := Lib.hid hc
 have e0 : ¬ (200 : Int) < (len : Int) := by omega
 clear hT hT2 hS hl hc
 go_enter Tryz.func14, Tryz.ntmps14
 go_wp2
 go_loopw [6] (fun iv y => ∃ i : Nat, i ≤ len ∧ iv = .int .i64 (i : Nat) ∧ Hid (Below w.heap.size w y)) (fun iv _ => len - (intOf iv).toNat)
 case atStart => exact ⟨0, Nat.zero_le _, rfl, Lib.hid (Below.refl _ _)⟩
 case round =>
  obtain ⟨i, hi, rfl, HB⟩ := hrel
  obtain ⟨y, hyy⟩ : ∃ y, y = wr := ⟨_, rfl⟩
  subst hyy
  by_cases hil : i < len
  · have e1 : (i : Int) < (len : Int) := by omega
    have e2 : (0 : Int) ≤ (i : Int) := by omega
    obtain ⟨b, off, t, rfl, hSb, hbw, c0, c1, c2, hT⟩ := HT.out i hil
    have c0 := (HB.out.cell (by exact hbw)).trans c0
    have c1 := (HB.out.cell (by exact hbw)).trans c1
    have c2 := (HB.out.cell (by exact hbw)).trans c2
    have HF := Lib.hid (Fits8_any F P dep anc HS.out aoS n capS _ Hl.out t y (TreeAt.keep (KeepS.of HB.out) n 0 t hT) (Hc.out.at HB.out))
    clear hT
    go_wp2_with fail
    refine HF.out.mono ?_
    rintro e x ⟨rfl, hb⟩
    have HB2 := Lib.hid (bmore HB.out hb)
    clear hb c0 c1 c2
    go_wp2
    go_roundw
    case rel => exact ⟨i + 1, by omega, by go_num, HB2⟩
    case measure => simp [intOf]; omega
  · obtain rfl : len = i := by omega
    have e1 : ¬ (len : Int) < (len : Int) := by omega
    have HBe := Lib.hid (begin14_any F P dep anc HS.out aoS n capS y Hl.out (Hc.out.at HB.out))
    go_wp2_with fail
    refine HBe.out.mono ?_
    rintro e x ⟨C, g, rfl, hF, hP, hn, HO, HW, hg, hb⟩
    subst hF
    subst hP
    subst hn
    have hgx := HW.out.lt
    have hwx : w.heap.size ≤ x.heap.size := Nat.le_trans HB.out.size hb.out.size
    have HBx := Lib.hid (bmore HB.out hb.out)
    have hyg : w.heap.size ≤ g := Nat.le_trans HB.out.size hg
    obtain ⟨cs0, hcs0⟩ : ∃ cs0, cs0 = List.replicate C.m cd0 := ⟨_, rfl⟩
    rw [← hcs0] at HW
    have Hcs0 := Lib.hid hcs0
    have hm14 : C.m ≤ 14 := by rw [HO.out.m]; have := nLf_le C.F C.n; have := HO.out.fin.small; have := HO.out.len; omega
    clear hb HB HBe hcs0
    go_wp2
    go_loopw [9] (fun iv y => ∃ (i : Nat) (cs : List Cd), i ≤ len ∧ iv = .int .i64 (i : Nat) ∧ Hid (Wk C y g cs) ∧ Hid (Grew C (fun _ => i * 243) cs0 cs) ∧ Hid (Fr g x y)) (fun iv _ => len - (intOf iv).toNat)
    case atStart => exact ⟨0, cs0, Nat.zero_le _, rfl, HW, Lib.hid (Grew.refl _ _ _), Lib.hid (Fr.refl _ _)⟩
    case round =>
     clear HW
     obtain ⟨i, cs, hi, rfl, HW, HG, HF⟩ := hrel
     obtain ⟨y, hyy⟩ : ∃ y, y = wr := ⟨_, rfl⟩
     subst hyy
     by_cases hil : i < len
     · have e2 : (i : Int) < (len : Int) := by omega
       have e3 : (0 : Int) ≤ (i : Int) := by omega
       have hby : Below w.heap.size w y := HBx.out.trans (HF.out.b.mono (Nat.le_succ_of_le hyg))
       obtain ⟨b, off, t, rfl, hSb, hbw, c0, c1, c2, hT⟩ := HT.out i hil
       have c0 := (hby.cell (by exact hbw)).trans c0
       have c1 := (hby.cell (by exact hbw)).trans c1
       have c2 := (hby.cell (by exact hbw)).trans c2
       have hn : 0 < C.n := by rw [← HO.out.len]; exact HO.out.fin.pos
       have hR : Room C (Wt dep anc 0) cs := fun j h1 h2 => by
        have h3 := HG.out j h1 h2
        rw [Hcs0.out, rep_N] at h3
        have h4 := Wt_le (dep := dep) (anc := anc) 0 j
        have h5 : i * 243 ≤ 16 * 243 := Nat.mul_le_mul_right _ (by omega)
        simp only at h3
        omega
       have HV := Lib.hid (value14_any C dep anc HO.out g (fun b => b < w.heap.size) (fun b hb => by omega) C.n 0 0 0 t cs y hn (TreeAt.keep (KeepS.of hby) C.n 0 t hT) HW.out hR (by omega) (Nat.zero_le _))
       clear hT hR hby hn
       go_wp2_with fail
       refine HV.out.mono ?_
       rintro e z ⟨rfl, cs2, HW2, HG2, HF2⟩
       have HG3 : Hid (Grew C (fun _ => (i + 1) * 243) cs0 cs2) := Lib.hid (HG.out.trans HG2.out (fun j hj => by have h4 := Wt_le (dep := dep) (anc := anc) 0 j; omega))
       have HF3 := Lib.hid (HF.out.trans HF2.out)
       have hN : ∀ k, k < C.m → (cs2.getD k cd0).N ≤ 4000 := fun k hk => by
        have h := grew_all HO.out HW2.out (by rw [← Hcs0.out]; exact HG3.out) k hk
        have h5 : (i + 1) * 243 ≤ 16 * 243 := Nat.mul_le_mul_right _ (by omega)
        omega
       have hoC : z.ownsRow (g + 1) 33 3 (.slice C.aoC C.m C.capC) C.m (wcs cdV cs2) := HW2.out.rows.1 ⟨33, 3, .slice C.aoC C.m C.capC, C.m, wcs cdV cs2⟩ (List.mem_cons_of_mem _ (List.mem_cons_of_mem _ (List.mem_cons_self ..)))
       obtain ⟨-, -, -, -, k4⟩ := five_cells HW2.out.blk
       have HN := Lib.hid hN; have HoC := Lib.hid hoC
       clear hN hoC c0 c1 c2 HW HG HF HG2 HF2
       go_wp2
       go_loopw [10] (fun kv wz => ∃ k : Nat, k ≤ C.m ∧ kv = .int .i64 (k : Nat) ∧ wz = z) (fun kv _ => C.m - (intOf kv).toNat)
       case atStart => exact ⟨0, Nat.zero_le _, rfl, rfl⟩
       case round =>
        obtain ⟨k, hk, rfl, hwz⟩ := hrel
        have hzw := hwz.symm
        subst hzw
        clear hwz
        by_cases hkm : k < C.m
        · obtain ⟨gC, _, hvC, -, -⟩ := own_shapeG (show 0 < C.m by omega) HoC.out
          simp only [Value.slice.injEq, true_and] at hvC
          obtain ⟨hvC, hcC⟩ := hvC
          have hoC := HoC.out
          rw [hvC] at k4 hoC
          have x0 := own_cw cdV_length hoC cd0 HW2.out.len k 0 hkm (by decide)
          obtain ⟨cc, hcc⟩ : ∃ cc, cc = cs2.getD k cd0 := ⟨_, rfl⟩
          have hN4 := HN.out k hkm
          rw [← hcc] at x0 hN4
          simp only [cdV, List.getD_cons_zero, Nat.add_zero] at x0
          have e5 : (k : Int) < (C.m : Int) := by omega
          have e6 : (0 : Int) ≤ (k : Int) := by omega
          have e7 : ¬ (4000 : Int) < (cc.N : Int) := by omega
          clear hcc hcC hvC hoC
          go_wp2
          go_roundw
          case rel => exact ⟨k + 1, by omega, by go_num, trivial⟩
          case measure => simp [intOf]; omega
        · obtain rfl : k = C.m := by omega
          have e5 : ¬ (C.m : Int) < (C.m : Int) := by omega
          go_wp2
          go_roundw
          case rel => exact ⟨i + 1, cs2, by omega, by go_num, HW2, HG3, HF3⟩
          case measure => simp [intOf]; omega
     · obtain rfl : len = i := by omega
       have e2 : ¬ (len : Int) < (len : Int) := by omega
       obtain ⟨-, -, -, -, k4⟩ := five_cells HW.out.blk
       have hN : ∀ c ∈ cs, c.N ≤ 4000 := fun c hc => by
        obtain ⟨k, hk, rfl⟩ := List.mem_iff_getElem.1 hc
        have h := grew_all HO.out HW.out (by rw [← Hcs0.out]; exact HG.out) k (by rw [← HW.out.len]; exact hk)
        rw [List.getD_eq_getElem?_getD, List.getElem?_eq_getElem hk] at h
        have h5 : len * 243 ≤ 16 * 243 := Nat.mul_le_mul_right _ hlen
        simp only [Option.getD_some] at h
        omega
       obtain ⟨hcC, hcs, hlow⟩ := HW.out.cols hN
       have Hlow : Hid (∀ a, C.aoC = some a → w.heap.size ≤ a.block) := Lib.hid (fun a ha => by have := hlow a ha; omega)
       have Hm := Lib.hid HO.out.m
       have Hlen := Lib.hid HW.out.len
       have HcC := Lib.hid hcC
       have Hcs : Hid (∀ c ∈ cs, ColIn y c) := Lib.hid (fun c hc => (hcs c hc).1)
       have HcLo : Hid (∀ c ∈ cs, ColLo w.heap.size c) := Lib.hid (fun c hc => (hcs c hc).2.mono (by omega))
       have HBf := Lib.hid (HBx.out.trans (HF.out.b.mono (Nat.le_succ_of_le hyg)))
       clear hN hcC hcs hlow
       go_wp2
       go_ret2
       exact ⟨C.aoC, C.m, C.capC, cs, rfl, Hm, Hlen, HcC.out, Hcs, HcLo, Hlow, HBf⟩
end Go.Proofs.YtebmbkbnngeabaaGreat
